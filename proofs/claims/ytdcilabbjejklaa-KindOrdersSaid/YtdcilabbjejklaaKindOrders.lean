/- The walk of the law KindOrders. -/
import Derived.Test.YtdcilabbjejklaaKindFits
namespace Go.Proofs.Ytdcilabbjejklaa
open Go.RowKit Go.WideShapes Go.ChangeShapes

namespace lawKindOrders
open lawKindFits
theorem tile_facts (c : Int) (h0 : 0 ≤ c) (h1 : c ≤ 2) (j : Nat) (hj : j < 6) : price c 1 = 1 ∧ (j ≠ 1 → 0 < price c j → 1 < price c j) ∧ (j = 5 → price c j = 0) := by
  rcases (by omega : c = 0 ∨ c = 1 ∨ c = 2) with rfl | rfl | rfl <;> rcases (by omega : j = 0 ∨ j = 1 ∨ j = 2 ∨ j = 3 ∨ j = 4 ∨ j = 5) with rfl | rfl | rfl | rfl | rfl | rfl <;> decide
theorem water (c : Int) (h0 : 0 ≤ c) (h1 : c ≤ 2) : ∃ x, price c 4 = x ∧ 0 ≤ x ∧ x ≤ 2 ∧ ((c == 2) = decide (0 < x)) := by
  rcases (by omega : c = 0 ∨ c = 1 ∨ c = 2) with rfl | rfl | rfl
  · exact ⟨0, rfl, by decide, by decide, by decide⟩
  · exact ⟨0, rfl, by decide, by decide, by decide⟩
  · exact ⟨2, rfl, by decide, by decide, by decide⟩

theorem room (k : Nat) (h : k < 4) (a b c d e : Int) (hk : kindV k = .agg #[.int .i64 a, .int .i64 b, .int .i64 c, .int .i64 d, .int .i64 e]) : (0 < e → k = 3) ∧ (k = 3 → 0 < e) := by
  rcases (by omega : k = 0 ∨ k = 1 ∨ k = 2 ∨ k = 3) with rfl | rfl | rfl | rfl <;> (simp [kindV, kv] at hk; omega)
set_option maxHeartbeats 3200000 in
set_option maxRecDepth 100000 in
theorem walk {H : Type} {enc : TypeId × Value → H} (w : World) {base : Nat} (v : Value) (d : DataW H) (p : List MemPlace) (hv : Value.okWide Try.prog w .any base 22 v)
    (ht : DataW.Trod enc Try.prog w 0 (fun _ => true) true 22 v d p) : Calls Try.prog 5 #[v] w fun e w' => e = .returned (.bool true) ∧ Below w.heap.size w w' := by
  obtain ⟨A, n, c, l, rfl, hnc, hcm, hr, hl, hz⟩ := open_list hv ht
  unfold maxLen at hcm
  clear hv ht hr hl hz
  go_enter Try.func5, Try.ntmps5
  go_wp2
  go_loopw [3] (fun i wr => ∃ (k : Nat), k ≤ 3 ∧ i = .int .i64 k ∧ Below w.heap.size w wr) (fun i _ => 3 - (intOf i).toNat)
  case atStart => exact ⟨0, by omega, rfl, Below.refl _ _⟩
  case round =>
    obtain ⟨k, hk, rfl, hbl⟩ := hrel
    by_cases h4 : k < 3
    · obtain ⟨wa, hwa, hw0, hw2, hwc⟩ := water k (by omega) (by omega)
      have C1 := Lib.hid (fun W => kind_cost_yes k 1 W (by omega) (by omega) (by decide) (by decide))
      rw [(tile_facts k (by omega) (by omega) 0 (by omega)).1] at C1
      have C2 := Lib.hid (fun W => kind_cost_yes k 4 W (by omega) (by omega) (by decide) (by decide))
      rw [hwa] at C2
      clear hwa
      go_wp2_with fail
      refine (C1.out _).mono ?_
      rintro e w1 ⟨rfl, hb1⟩
      go_wp2_with fail
      refine (C2.out _).mono ?_
      rintro e w2 ⟨rfl, hb2⟩
      go_wp2_with (go_at_call 17; refine (num_kind _ _).mono ?_; rintro e wn ⟨rfl, rfl⟩)
      clear C1 C2 hwc
      go_loopw [8] (fun t wt => ∃ (j : Nat), j ≤ 6 ∧ t = .int .i64 j ∧ Below w2.heap.size w2 wt) (fun t _ => 6 - (intOf t).toNat)
      case atStart => exact ⟨0, by omega, rfl, Below.refl _ _⟩
      case round =>
        obtain ⟨j, hj, rfl, hbj⟩ := hrel
        by_cases h6 : j < 6
        · obtain ⟨hp0, hp6⟩ := price_le k (by omega) (by omega) j h6
          obtain ⟨_, hpj, hp5⟩ := tile_facts k (by omega) (by omega) j h6
          have C := Lib.hid (fun W => kind_cost_yes k j W (by omega) (by omega) (by omega) (by omega))
          generalize price k j = pr at *
          rcases (by omega : (0 < pr ∧ j = 1) ∨ (0 < pr ∧ j ≠ 1 ∧ 1 < pr ∧ j ≠ 5) ∨ (pr = 0 ∧ j = 5) ∨ (pr = 0 ∧ j ≠ 5)) with ⟨q1, rfl⟩ | ⟨q1, q2, q3, q4⟩ | ⟨rfl, rfl⟩ | ⟨rfl, q4⟩
          · have f1 : decide (0 < pr) = true := decide_eq_true q1
            clear hpj hp5
            go_wp2_with fail
            refine (C.out _).mono ?_
            rintro e w3 ⟨rfl, hb3⟩
            go_wp2_with (go_at_call 17; refine (num_kind _ _).mono ?_; rintro e wn ⟨rfl, rfl⟩)
            go_roundw
            case rel => exact ⟨2, by omega, by go_num, hbj.trans (hb3.mono hbj.size)⟩
            case measure => simp [intOf]
          · have f1 : decide (0 < pr) = true := decide_eq_true q1
            have f2 : decide (pr ≤ 1) = false := decide_eq_false (by omega)
            have f3 : ((j : Int) == 1) = false := beq_eq_false_iff_ne.2 (by omega)
            have f5 : decide ((j : Int) ≤ 5) = true := decide_eq_true (by omega)
            have f4 : ((j : Int) == 5) = false := beq_eq_false_iff_ne.2 (by omega)
            clear hpj hp5 q2 q4
            go_wp2_with fail
            refine (C.out _).mono ?_
            rintro e w3 ⟨rfl, hb3⟩
            go_wp2_with (go_at_call 17; refine (num_kind _ _).mono ?_; rintro e wn ⟨rfl, rfl⟩)
            go_roundw
            case rel => exact ⟨j + 1, by omega, by go_num, hbj.trans (hb3.mono hbj.size)⟩
            case measure => simp [intOf]; omega
            exact ⟨⟨j + 1, by omega, by go_num, hbj.trans (hb3.mono hbj.size)⟩, by simp [intOf]; omega⟩
          · clear hpj hp5
            go_wp2_with fail
            refine (C.out _).mono ?_
            rintro e w3 ⟨rfl, hb3⟩
            go_wp2_with (go_at_call 17; refine (num_kind _ _).mono ?_; rintro e wn ⟨rfl, rfl⟩)
            go_roundw
            case rel => exact ⟨6, by omega, by go_num, hbj.trans (hb3.mono hbj.size)⟩
            case measure => simp [intOf]
          · have f4 : ((j : Int) == 5) = false := beq_eq_false_iff_ne.2 (by omega)
            have f5 : decide ((j : Int) ≤ 5) = true := decide_eq_true (by omega)
            clear hpj hp5 q4
            go_wp2_with fail
            refine (C.out _).mono ?_
            rintro e w3 ⟨rfl, hb3⟩
            go_wp2_with (go_at_call 17; refine (num_kind _ _).mono ?_; rintro e wn ⟨rfl, rfl⟩)
            go_roundw
            case rel => exact ⟨j + 1, by omega, by go_num, hbj.trans (hb3.mono hbj.size)⟩
            case measure => simp [intOf]; omega
        · obtain rfl : j = 6 := by omega
          go_wp2
          exact ⟨⟨k + 1, by omega, by go_num, hbl.trans ((hb1.trans ((hb2.trans (hbj.mono hb2.size)).mono hb1.size)).mono hbl.size)⟩, by simp [intOf]; omega⟩
    · have h3 : 3 ≤ k := by omega
      clear hk h4
      go_wp2
      go_loopw [11, 12] (fun cr t wt => ∃ (j : Nat), j ≤ 4 ∧ t = .int .i64 j ∧ cr = .int .i64 (if j = 4 then 1 else 0) ∧ Below w.heap.size w wt) (fun _ t _ => 4 - (intOf t).toNat)
      case atStart => exact ⟨0, by omega, rfl, rfl, hbl⟩
      case round =>
        obtain ⟨j, hj, rfl, rfl, hbj⟩ := hrel
        by_cases h6 : j < 4
        · obtain ⟨a, b, cc, dd, ee, hkv, ha0, ha1, hb0, hb1, hc0, hc1, hd0, hd1, he0, he1, hab, hba⟩ := facts j h6
          have he := room j h6 _ _ _ _ _ hkv
          have K := Lib.hid (fun W => kind_of j W)
          rw [hkv, ok_at h6] at K
          have HI := Lib.hid (show (if j = 4 then (1 : Int) else 0) = 0 from if_neg (by omega))
          have HJ := Lib.hid (fun (h : 0 < ee) => show (if j + 1 = 4 then (1 : Int) else 0) = 1 from if_pos (by have := he.1 h; omega))
          have HK := Lib.hid (fun (h : ¬ 0 < ee) => show (if j + 1 = 4 then (1 : Int) else 0) = 0 from if_neg (fun e => h (he.2 (by omega))))
          rw [HI.out]
          clear HI he
          have ha' : (a == 0) = false := beq_eq_false_iff_ne.2 (by omega)
          by_cases h0 : 0 < ee
          · have hv := HJ.out h0
            clear HJ HK hkv
            go_wp2_with fail
            refine (K.out _).mono ?_
            rintro e w1 ⟨rfl, hb1⟩
            go_wp2_with (go_at_call 17; refine (num_kind _ _).mono ?_; rintro e wn ⟨rfl, rfl⟩)
            go_roundw
            case rel => exact ⟨j + 1, by omega, by go_num, ret_val hv.symm, hbj.trans ((hb1.mono hbj.size).alloc (by have := hbj.size; have := hb1.size; omega) _)⟩
            case measure => simp [intOf]; omega
          · have hv := HK.out h0
            have hee : ee = 0 := by omega
            subst hee
            clear HJ HK hkv
            go_wp2_with fail
            refine (K.out _).mono ?_
            rintro e w1 ⟨rfl, hb1⟩
            go_wp2_with (go_at_call 17; refine (num_kind _ _).mono ?_; rintro e wn ⟨rfl, rfl⟩)
            go_roundw
            case rel => exact ⟨j + 1, by omega, by go_num, ret_val hv.symm, hbj.trans ((hb1.mono hbj.size).alloc (by have := hbj.size; have := hb1.size; omega) _)⟩
            case measure => simp [intOf]; omega
        · obtain rfl : j = 4 := by omega
          rw [if_pos rfl]
          go_wp2_with fail
          refine (wakes_kind _).mono ?_
          rintro e w1 ⟨rfl, hb1⟩
          go_wp2
          go_ret
          exact ⟨rfl, hbj.trans (hb1.mono hbj.size)⟩
end lawKindOrders
end Go.Proofs.Ytdcilabbjejklaa
