/- The walk of the law FnvParts. -/
import Derived.Test.YtpklgghppmlklaaFnvSums
import Derived.Test.YtpklgghppmlklaaFnvMath
import Derived.StillTailTactics
import Derived.Outline
namespace Go.Proofs.Ytpklgghppmlklaa
open Go.RowKit Go.WideShapes Go.ChangeShapes

/-- A number from 0 below n. -/
def wi (i n : Int) : Int := (i % 18446744073709551616) % n
theorem wi_range (i : Int) {n : Int} (h : 0 < n) : 0 ≤ wi i n ∧ wi i n < n := ⟨Int.emod_nonneg _ (by omega), Int.emod_lt_of_pos _ h⟩

theorem wi_eq (i n : Int) (h0 : 0 < n) (h1 : n ≤ 1048576) : wrap64 ((IntKind.u64.wrap i).tmod n) = wi i n := by
  have e : IntKind.u64.wrap i = i % 18446744073709551616 := by simp [IntKind.wrap, IntKind.signed, IntKind.bits]
  have hp : 0 ≤ i % 18446744073709551616 := Int.emod_nonneg _ (by omega)
  rw [e, Int.tmod_eq_emod_of_nonneg hp]
  have h := wi_range i h0
  unfold wi at h ⊢
  unfold wrap64
  omega

set_option maxHeartbeats 400000 in
theorem within (i n : Int) (w : World) (h0 : 0 < n) (h1 : n ≤ 1048576) : Calls Try.prog 18 #[.int .i64 i, .int .i64 n] w fun e w' => e = .returned (.int .i64 (wi i n)) ∧ w' = w := by
  have hne : (n == 0) = false := by rw [beq_eq_false_iff_ne]; omega
  go_enter Try.func18, Try.ntmps18
  go_wp2
  go_ret
  refine ⟨ret_int (wi_eq i n h0 h1), rfl⟩

theorem xor8 (x y : Int) (hx : 0 ≤ x ∧ x ≤ 255) (hy : 1 ≤ y ∧ y ≤ 255) : 0 ≤ bits .xor .u8 x y ∧ bits .xor .u8 x y ≤ 255 ∧ bits .xor .u8 x y ≠ x := by
  have h1 : bits .xor .u8 x y = ((BitVec.ofInt 8 x ^^^ BitVec.ofInt 8 y).toNat : Int) := by
    show IntKind.u8.wrap ((BitVec.ofInt 8 x ^^^ BitVec.ofInt 8 y).toNat : Int) = _
    generalize BitVec.ofInt 8 x ^^^ BitVec.ofInt 8 y = z
    have := z.isLt
    simp only [IntKind.wrap, IntKind.signed, IntKind.bits]
    simp
    omega
  rw [h1]
  have hlt := (BitVec.ofInt 8 x ^^^ BitVec.ofInt 8 y).isLt
  refine ⟨by omega, by omega, fun h => ?_⟩
  have hxn : ((BitVec.ofInt 8 x).toNat : Int) = x := by rw [BitVec.toNat_ofInt]; omega
  have h2 : BitVec.ofInt 8 x ^^^ BitVec.ofInt 8 y = BitVec.ofInt 8 x := BitVec.eq_of_toNat_eq (by omega)
  have h3 : BitVec.ofInt 8 y = 0#8 := by
    have h5 := congrArg (fun z => BitVec.ofInt 8 x ^^^ z) h2
    simpa [← BitVec.xor_assoc] using h5
  have h4 := congrArg BitVec.toNat h3
  rw [BitVec.toNat_ofInt] at h4
  simp at h4
  omega
theorem nums_set (k : IntKind) (l : List Int) (j : Nat) (x : Int) : (nums k l).set j (.int k x) = nums k (l.set j x) := by simp [nums, List.map_set]

namespace lawFnvParts
set_option maxHeartbeats 1600000 in
set_option maxRecDepth 100000 in
theorem walk {H : Type} {enc : TypeId × Value → H} (w : World) {base : Nat} (v : Value) (d : DataW H) (p : List MemPlace) (hv : Value.okWide Try.prog w .any base 22 v)
    (ht : DataW.Trod enc Try.prog w 0 (fun _ => true) true 22 v d p) : Calls Try.prog 4 #[v] w fun e w' => e = .returned (.bool true) ∧ Below w.heap.size w w' := by
  obtain ⟨A, n, c, rfl, hnc, hcm, ha⟩ := open_asks3 hv ht
  unfold maxLen at hcm
  clear hv ht
  go_enter Try.func4, Try.ntmps4
  go_wp2
  go_loopw [3] (fun i wr => ∃ (k : Nat), k ≤ n ∧ k ≤ 20 ∧ i = .int .i64 k ∧ Below w.heap.size w wr) (fun i _ => n - (intOf i).toNat)
  case atStart => exact ⟨0, Nat.zero_le _, by omega, rfl, Below.refl _ _⟩
  case round =>
    obtain ⟨k, hk, hk20, rfl, hbl⟩ := hrel
    by_cases hlt : k < n
    · by_cases h20 : k < 20
      · obtain ⟨b, o, s, kk, A', m, c', l, rfl, hb, hc1, hc2, hc3, hr, hl, hs, hkk, hmc, hcm'⟩ := ha.below hbl k hlt
        unfold maxLen at hcm'
        by_cases hm : 5000 < m
        · go_wp2
          go_roundw
          case rel => exact ⟨k + 1, by omega, by omega, by go_num, hbl⟩
          case measure => simp [intOf]; omega
        · by_cases hm0 : m = 0
          · have d2 : ((m : Int) == 0) = true := by rw [beq_iff_eq]; omega
            have hm5 : m ≤ 5000 := by omega
            clear hm0
            go_wp2
            go_roundw
            case rel => exact ⟨k + 1, by omega, by omega, by go_num, hbl⟩
            case measure => simp [intOf]; omega
          · have d2 : ((m : Int) == 0) = false := by rw [beq_eq_false_iff_ne]; omega
            have hm5 : m ≤ 5000 := by omega
            have hmp : 0 < m := by omega
            clear hm0 hm
            obtain ⟨hll, b', o', rfl, hb', _⟩ := hr.num hmp
            have hw1 := wi_range kk (n := (m : Int) + 1) (by omega)
            have hw2 := wi_range kk (n := (m : Int)) (by omega)
            have hw3 := wi_range kk (n := 255) (by omega)
            obtain ⟨q, hq⟩ := Int.eq_ofNat_of_zero_le hw1.1
            have hqm : q ≤ m := by omega
            have W1 := fun W => within kk ((m : Int) + 1) W (by omega) (by omega)
            rw [hq] at W1
            have W1 := Lib.hid W1
            have HLL := Lib.hid hll
            clear hw1 hq hll
            go_wp2_with (go_at_call 18; refine Calls.mono (W1.out _) ?_; rintro e w1 ⟨rfl, rfl⟩)
            refine (fnv_sum _ _ _ _ _ _ _ hr hl (by unfold maxLen; omega)).mono ?_
            rintro e w1 ⟨rfl, rfl⟩
            have R1 := hr.head hqm
            have R2 := hr.tail hqm hmc
            have hl1 : IsBytes (l.take q) := fun x hx => hl x (List.mem_of_mem_take hx)
            have hl2 : IsBytes (l.drop q) := fun x hx => hl x (List.mem_of_mem_drop hx)
            have S1 := Lib.hid (fun nq => quiet_of_same2 (n := nq) (fnv_sum s (some ⟨b', o', none⟩) q c' _ (l.take q) (w1.drewN nq) (R1.drewN nq) hl1 (by unfold maxLen; omega)))
            have S2 := Lib.hid (fun nq => quiet_of_same2 (n := nq) (fnv_sum (fsum s (l.take q)) (if c' = q then some ⟨b', o', none⟩ else some ⟨b', o' + q, none⟩) (m - q) (c' - q) _ (l.drop q) (w1.drewN nq) (R2.drewN nq) hl2 (by unfold maxLen; omega)))
            have S3 := Lib.hid (fun nq => quiet_of_same2 (n := nq) (fnv_sum s none 0 0 w1.heap.size [] (w1.drewN nq) Reads.none_ (by simp [IsBytes]) (by unfold maxLen; omega)))
            rw [fsum_parts] at S2
            have S3' : Hid (∀ nq, Calls Try.prog 13 #[.int .u64 s, .slice none 0 0] (w1.drewN nq) fun e w'' => e = .returned (.int .u64 s) ∧ ∃ m, w'' = w1.drewN m) := S3
            clear R1 R2 S3
            go_wp2_with fail
            go_quiet ((go_at_call 13; with_reducible (first | exact S1.out _ | exact S2.out _ | exact S3'.out _)))
            obtain ⟨j, hj⟩ := Int.eq_ofNat_of_zero_le hw2.1
            have hjm : j < m := by omega
            have W2 := fun W => within kk (m : Int) W (by omega) (by omega)
            rw [hj] at W2
            have W2 := Lib.hid W2
            have W3 := Lib.hid (fun W => within kk 255 W (by omega) (by omega))
            clear hw2 hj S1 S2 S3' hl1 hl2
            go_wp2_with fail
            all_goals
              refine (copy_bytes _ _ _ _ l _ (hr.drewN _) (Nat.le_refl _) (by omega)).mono ?_
              rintro e w2 ⟨A2, c2, rfl, hown, hb1⟩
              have hc1' := (hb1.cell (p := ⟨b, o + k * 3, none⟩) hb).trans hc1
              have hc3' := (hb1.cell (p := ⟨b, o + k * 3 + 2, none⟩) hb).trans hc3
              have hbl1 := (below_drewN hbl nq).trans (hb1.mono hbl.size)
              obtain ⟨g, cap, hv, hgb, hgl⟩ := hown.form hmp
              injection hv with hA2 _ hcap
              subst hA2; subst hcap
              have hcj := hown.cells (g := g) rfl j (.int .u8 (l.getD j 0)) (by have := HLL.out; simp [nums, List.getD, show j < l.length by omega])
              rw [Addr.add_lit, Nat.zero_add] at hcj
              have hfj := hown.frozenAt j
              have hbg : b < g := Nat.lt_of_lt_of_le hb hgb
              have hx0 := hl.at_ j
              have HS := Lib.hid (fun c (h1 : 0 ≤ c ∧ c ≤ 255) (h2 : c ≠ l.getD j 0) => fsum_set s l j c (by have := HLL.out; omega) h1 hx0 h2)
              generalize l.getD j 0 = x0 at *
              clear hc1 hc2 hc3 hb1
              go_wp2_with fail
              refine wp_region_still_tail 21 (by kernel_rfl) (by kernel_rfl) ?_
              simp only [List.take_succ_cons, List.take_zero, List.drop_succ_cons, List.drop_zero]
              repeat still_step
              still_call (W2.out _)
              repeat still_step
              still_call (W3.out _)
              repeat still_step
              refine wpStill_nil ?_
              change wpList _ _ _ _ _ w2.drew
              have hy : 1 ≤ 1 + wi kk 255 ∧ 1 + wi kk 255 ≤ 255 := by omega
              have hz := xor8 x0 (1 + wi kk 255) hx0 hy
              have hst := (hown.stored j (.int .u8 (bits .xor .u8 x0 (1 + wi kk 255)))).1
              rw [nums_set] at hst
              have hne : (fsum s (l.set j (bits .xor .u8 x0 (1 + wi kk 255))) == fsum s l) = false := by
                rw [beq_eq_false_iff_ne]
                exact HS.out _ ⟨hz.1, hz.2.1⟩ hz.2.2
              have hlz : IsBytes (l.set j (bits .xor .u8 x0 (1 + wi kk 255))) := fun x hx => by
                rcases List.mem_or_eq_of_mem_set hx with h | h
                · exact hl x h
                · subst h; exact ⟨hz.1, hz.2.1⟩
              have S4 := Lib.hid (fnv_sum s (some ⟨g, 0, none⟩) m c2 _ _ _ (Reads.of_own hst).drew hlz (by unfold maxLen; omega))
              have hbl2 := (hbl1.setCell (p := ⟨g, j, none⟩) (by have := hbl.size; exact Nat.le_trans this hgb) (.int .u8 (bits .xor .u8 x0 (1 + wi kk 255)))).drew
              clear hz hst hlz hy
              have HNE := Lib.hid hne
              clear hne
              go_wp2_with fail
              refine Calls.mono S4.out ?_
              rintro e w3 ⟨rfl, rfl⟩
              have hne := HNE.out
              go_wp2
              go_roundw
              case rel => exact ⟨k + 1, by omega, by omega, by go_num, hbl2⟩
              case measure => simp [intOf]; omega
      · go_wp2_with (first | (go_at_call 17; refine (wakes_fnv _).mono ?_; rintro e w1 ⟨rfl, hb1⟩))
        go_ret
        exact ⟨rfl, hbl.trans (hb1.mono hbl.size)⟩
    · go_wp2_with (first | (go_at_call 17; refine (wakes_fnv _).mono ?_; rintro e w1 ⟨rfl, hb1⟩))
      go_ret
      exact ⟨rfl, hbl.trans (hb1.mono hbl.size)⟩
end lawFnvParts
end Go.Proofs.Ytpklgghppmlklaa
