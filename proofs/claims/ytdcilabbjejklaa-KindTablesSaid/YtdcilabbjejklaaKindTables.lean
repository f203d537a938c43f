/- The walk of the law KindTables. -/
import Derived.Test.YtdcilabbjejklaaKindLaw
namespace Go.Proofs.Ytdcilabbjejklaa
open Go.RowKit Go.WideShapes Go.ChangeShapes

theorem info_int : (Try.prog.info? 3).map (fun i => (i.zero, i.size, i.bytes)) = some (some (.int .i64 0), 1, 8) := by kernel_rfl
theorem one_int (k : IntKind) (x : Int) : ∀ u ∈ [Value.int k x], u.oneCell' = true := by simp [Value.oneCell']
theorem nums_take (k : IntKind) (l : List Int) (i : Nat) (h : i < l.length) : nums k (l.take i) ++ [.int k (l.getD i 0)] = nums k (l.take (i + 1)) := by
  unfold nums
  rw [List.take_succ_eq_append_getElem h, List.map_append]
  simp [List.getD, h]

namespace lawKindTables
def heads : List Int := [-1, 0, 1, 2, 3, 4, 1099511627776, -9223372036854775808]

theorem fresh_row (w : World) (base : Nat) (e : TypeId) (xs : List Value) (n : Nat) (hn : xs.length = n) (hb : base ≤ w.heap.size) (hm : n ≤ maxLen) :
    (w.alloc (.cells xs.toArray e)).ownsRow base e 1 (.slice (some ⟨w.heap.size, 0, none⟩) n n) n xs :=
  ⟨by omega, .inr ⟨w.heap.size, n, xs.toArray, rfl, hb, heap_alloc_new w _, Nat.le_refl _, hm, by simp; omega, by subst hn; simp⟩⟩

theorem u8_of (i : Nat) (h : i < 256) : IntKind.u8.wrap (i : Int) = i := by simp only [IntKind.wrap, IntKind.signed, IntKind.bits]; simp; omega
theorem kind_shape (k : Int) : ∃ a b c d e : Int, kindV k = .agg #[.int .i64 a, .int .i64 b, .int .i64 c, .int .i64 d, .int .i64 e] := by
  unfold kindV kv
  split
  · exact ⟨_, _, _, _, _, rfl⟩
  · split
    · exact ⟨_, _, _, _, _, rfl⟩
    · split
      · exact ⟨_, _, _, _, _, rfl⟩
      · split
        · exact ⟨_, _, _, _, _, rfl⟩
        · exact ⟨_, _, _, _, _, rfl⟩

theorem five (w1 : World) (a b c d e : Value) (t : TypeId) {w2 : World} (hb : Below (w1.alloc (.cells #[a, b, c, d, e] t)).heap.size (w1.alloc (.cells #[a, b, c, d, e] t)) w2) :
    w2.cell? ⟨w1.heap.size, 0, none⟩ = some a ∧ w2.cell? ⟨w1.heap.size, 1, none⟩ = some b ∧ w2.cell? ⟨w1.heap.size, 2, none⟩ = some c ∧ w2.cell? ⟨w1.heap.size, 3, none⟩ = some d ∧ w2.cell? ⟨w1.heap.size, 4, none⟩ = some e ∧ w1.heap.size < w2.heap.size ∧ Below w1.heap.size w1 w2 := by
  have hs := hb.size
  have hlt : ∀ k, (⟨w1.heap.size, k, none⟩ : Addr).block < (w1.alloc (.cells #[a, b, c, d, e] t)).heap.size := fun k => by simp
  refine ⟨?_, ?_, ?_, ?_, ?_, by simp at hs; omega, (below_one w1 _).trans (hb.mono (by simp))⟩
  all_goals
    rw [hb.cell (hlt _), World.cell?_alloc_at _ _ _ _ rfl]; rfl

set_option maxHeartbeats 1600000 in
set_option maxRecDepth 100000 in
theorem walk {H : Type} {enc : TypeId × Value → H} (w : World) {base : Nat} (v : Value) (d : DataW H) (p : List MemPlace) (hv : Value.okWide Try.prog w .any base 22 v)
    (ht : DataW.Trod enc Try.prog w 0 (fun _ => true) true 22 v d p) : Calls Try.prog 3 #[v] w fun e w' => e = .returned (.bool true) ∧ Below w.heap.size w w' := by
  obtain ⟨A, n, c, l, rfl, hnc, hcm, hr, hl, hz⟩ := open_list hv ht
  obtain ⟨i0, hi0, hz0, hz1, hz2⟩ := info_parts info_int
  unfold maxLen at hcm
  have HZ := Lib.hid hz
  have HL := Lib.hid hl
  have HO := Lib.hid (fresh_row w w.heap.size 3 (nums .i64 heads) 8 rfl (Nat.le_refl _) (by unfold maxLen; omega))
  clear hv ht hz hl
  go_enter Try.func3, Try.ntmps3
  go_wp2
  go_loopw [3, 4] (fun s i wr => ∃ (k : Nat) (A' : Option Addr) (c' : Nat), k ≤ n ∧ k ≤ 20 ∧ i = .int .i64 k ∧ s = .slice A' (8 + k) c' ∧ wr.ownsRow w.heap.size 3 1 (.slice A' (8 + k) c') (8 + k) (nums .i64 (heads ++ l.take k)) ∧ Below w.heap.size w wr) (fun _ i _ => n - (intOf i).toNat)
  case atStart => exact ⟨0, _, _, Nat.zero_le _, by omega, rfl, rfl, HO.out, (Below.refl _ _).alloc (Nat.le_refl _) _⟩
  case round =>
    obtain ⟨k, A', c', hk, hk20, rfl, rfl, hown, hbl⟩ := hrel
    rcases (by omega : (k < n ∧ k < 20) ∨ (k < n ∧ ¬ k < 20) ∨ ¬ k < n) with ⟨hlt, h20⟩ | hgo | hgo
    · obtain ⟨hll, b, o, rfl, hb, hc⟩ := (hr.below hbl).num hlt
      have HT := Lib.hid (nums_take .i64 l k (by omega))
      generalize l.getD k 0 = x at *
      clear hll
      go_wp2_with (at_builtin; refine wpList_push wr _ rfl _ _ _ rfl w.heap.size 3 i0 _ 1 8 Try.underlying22 hi0 hz0 hz1 hz2 rfl (by omega) _ _ _ rfl hown [.int .i64 x] rfl rfl rfl (one_int _ _) (by unfold maxLen; omega) (by omega) hbl.size ?_; intro A2 c2 w2 hown2 hb2)
      go_roundw
      case rel =>
        have e : nums .i64 (heads ++ l.take k) ++ [.int .i64 x] = nums .i64 (heads ++ l.take (k + 1)) := by
          have := HT.out
          simp only [nums, List.map_append] at this ⊢
          rw [List.append_assoc, this]
        rw [e] at hown2
        exact ⟨k + 1, A2, c2, by omega, by omega, by go_num, rfl, hown2, hbl.trans hb2⟩
      case measure => simp [intOf]; omega
    all_goals
      have hM : (heads ++ l.take k).length = 8 + k := by have := HL.out; simp [heads]; omega
      have hLZ : ∀ j, -9223372036854775808 ≤ (heads ++ l.take k).getD j 0 ∧ (heads ++ l.take k).getD j 0 ≤ 9223372036854775807 := by
        intro j
        unfold List.getD
        cases e : (heads ++ l.take k)[j]? with
        | none => simp
        | some x =>
          have hx := List.mem_of_getElem? e
          simp only [Option.getD_some]
          rcases List.mem_append.1 hx with h | h
          · simp [heads] at h; omega
          · exact HZ.out x (List.mem_of_mem_take h)
      have hLR := Reads.of_own hown
      have HLZ := Lib.hid hLZ
      generalize heads ++ l.take k = L at *
      clear hown HZ HL HO hLZ hr hM
      obtain ⟨w0, hw0⟩ : ∃ w0 : World, w0 = wr := ⟨_, rfl⟩
      go_wp2
      generalize hMM : 8 + k = M at *
      have hM28 : M ≤ 28 := by omega
      clear hMM
      go_loopw [5] (fun i wt => ∃ (j : Nat), j ≤ M ∧ i = .int .i64 j ∧ Below w0.heap.size w0 wt) (fun i _ => M - (intOf i).toNat)
      case atStart => subst hw0; exact ⟨0, Nat.zero_le _, rfl, Below.refl _ _⟩
      case round =>
        subst hw0
        obtain ⟨j, hj, rfl, hbj⟩ := hrel
        by_cases hjm : j < M
        · obtain ⟨hll, b, o, rfl, hb, hc⟩ := (hLR.below hbj).num hjm
          have hx := HLZ.out j
          obtain ⟨x, HX⟩ : ∃ x, Hid (L.getD j 0 = x) := ⟨_, Lib.hid rfl⟩
          rw [HX.out] at hc hx
          clear hll
          have K1 := Lib.hid (fun W => kind_of x W)
          have K2 := Lib.hid (fun W => ref_of x W)
          obtain ⟨va, vb, vc, vd, ve, hkv⟩ := kind_shape x
          rw [hkv] at K1 K2
          have hR := hLR
          have hcase : (okInt x = 0 ∧ decide (0 ≤ x ∧ x < 4) = true) ∨ (okInt x = 1 ∧ decide (0 ≤ x ∧ x < 4) = false) := by
            by_cases hin : 0 ≤ x ∧ x < 4
            · exact .inl ⟨if_pos hin, decide_eq_true hin⟩
            · exact .inr ⟨if_neg hin, decide_eq_false hin⟩
          rcases hcase with ⟨e1, e2⟩ | ⟨e1, e2⟩
          all_goals
            rw [e1] at K1
            rw [e2] at K2
            clear e1 e2 hkv
            go_wp2_with fail
            refine (K1.out _).mono ?_
            rintro e w1 ⟨rfl, hb1⟩
            have hc' := (hb1.cell (p := ⟨b, o + j, none⟩) (Nat.lt_of_lt_of_le hb hbj.size)).trans hc
            have hbs : b < w1.heap.size := Nat.lt_of_lt_of_le hb (Nat.le_trans hbj.size hb1.size)
            go_wp2_with fail
            refine (K2.out _).mono ?_
            rintro e w2 ⟨rfl, hb2⟩
            obtain ⟨q0, q1, q2, q3, q4, hlt2, hb2'⟩ := five _ _ _ _ _ _ _ hb2
            clear hb2 hc hc'
            go_wp2_with (go_at_call 17; refine (num_kind _ _).mono ?_; rintro e wn ⟨rfl, rfl⟩)
            have hbW : Below w0.heap.size w0 (w2.alloc (.cells #[.int .i64 va, .int .i64 vb, .int .i64 vc, .int .i64 vd, .int .i64 ve] 24)) := by
              have z1 := hbj.size
              have z2 := hb1.size
              have z3 := hb2'.size
              exact (hbj.trans (hb1.mono z1)).trans ((hb2'.mono (by omega)).alloc (by omega) _)
            clear q0 q1 q2 q3 q4 hlt2 hb2' hb1 hbs K1 K2
            generalize w2.alloc (.cells #[.int .i64 va, .int .i64 vb, .int .i64 vc, .int .i64 vd, .int .i64 ve] 24) = W at *
            generalize w1.heap.size = g1 at *
            generalize w2.heap.size = g2 at *
            go_loopw [10] (fun tt wt => ∃ (t : Nat), t ≤ 300 ∧ tt = .int .i64 t ∧ Below W.heap.size W wt) (fun tt _ => 300 - (intOf tt).toNat)
            case atStart => exact ⟨0, by omega, rfl, Below.refl _ _⟩
            case round =>
              obtain ⟨t, ht, rfl, hbt⟩ := hrel
              by_cases ht256 : t < 256
              · obtain ⟨_, b', o', hb', _, hc⟩ := ((hR.below hbW).below (hbt.mono hbW.size)).num hjm
                injection hb' with hb'
                injection hb' with e1 e2
                subst e1; subst e2
                rw [HX.out] at hc
                have hu8 : IntKind.u8.wrap (t : Int) = t := u8_of t ht256
                have hq8 : Int.tdiv (t : Int) 8 = ((t / 8 : Nat) : Int) := by rw [Int.tdiv_eq_ediv_of_nonneg (by omega)]; omega
                by_cases hcl : 0 ≤ x ∧ x ≤ 2
                · have R1 := Lib.hid (fun W => ref_class x W)
                  rw [decide_eq_true hcl] at R1
                  by_cases h5 : t ≤ 5
                  · have C1 := Lib.hid (fun W => kind_cost_yes x t W hcl.1 hcl.2 (by omega) (by omega))
                    have C2 := Lib.hid (fun W => ref_cost x t W hcl.1 hcl.2 (by omega) (by omega))
                    generalize price x t = pr at *
                    go_wp2_with fail
                    refine (C1.out _).mono ?_
                    rintro e w3 ⟨rfl, hb3⟩
                    have hc3 := (hb3.cell (p := ⟨b, o + j, none⟩) (Nat.lt_of_lt_of_le hb (Nat.le_trans hbW.size hbt.size))).trans hc
                    go_wp2_with fail
                    refine (R1.out _).mono ?_
                    rintro e wn ⟨rfl, rfl⟩
                    go_wp2_with (go_at_call 17; refine (num_kind _ _).mono ?_; rintro e wn ⟨rfl, rfl⟩)
                    refine (C2.out _).mono ?_
                    rintro e w4 ⟨rfl, hb4⟩
                    go_wp2
                    exact ⟨⟨t + 1 + t / 8, by omega, ret_val (by omega), hbt.trans ((hb3.trans (hb4.mono hb3.size)).mono hbt.size)⟩, by simp [intOf]; omega⟩
                  · have C1 := Lib.hid (fun W => kind_cost_no x t W (.inr (by omega)))
                    go_wp2_with fail
                    refine (C1.out _).mono ?_
                    rintro e w3 ⟨rfl, hb3⟩
                    have hc3 := (hb3.cell (p := ⟨b, o + j, none⟩) (Nat.lt_of_lt_of_le hb (Nat.le_trans hbW.size hbt.size))).trans hc
                    go_wp2_with fail
                    refine (R1.out _).mono ?_
                    rintro e wn ⟨rfl, rfl⟩
                    go_wp2_with (go_at_call 17; refine (num_kind _ _).mono ?_; rintro e wn ⟨rfl, rfl⟩)
                    exact ⟨⟨t + 1 + t / 8, by omega, ret_val (by omega), hbt.trans (hb3.mono hbt.size)⟩, by simp [intOf]; omega⟩
                · have R1 := Lib.hid (fun W => ref_class x W)
                  rw [decide_eq_false hcl] at R1
                  have C1 := Lib.hid (fun W => kind_cost_no x t W (.inl hcl))
                  go_wp2_with fail
                  refine (C1.out _).mono ?_
                  rintro e w3 ⟨rfl, hb3⟩
                  have hc3 := (hb3.cell (p := ⟨b, o + j, none⟩) (Nat.lt_of_lt_of_le hb (Nat.le_trans hbW.size hbt.size))).trans hc
                  go_wp2_with fail
                  refine (R1.out _).mono ?_
                  rintro e wn ⟨rfl, rfl⟩
                  go_wp2_with (go_at_call 17; refine (num_kind _ _).mono ?_; rintro e wn ⟨rfl, rfl⟩)
                  exact ⟨⟨t + 1 + t / 8, by omega, ret_val (by omega), hbt.trans (hb3.mono hbt.size)⟩, by simp [intOf]; omega⟩
              · go_wp2
                exact ⟨⟨j + 1, by omega, by go_num, hbW.trans (hbt.mono hbW.size)⟩, by simp [intOf]; omega⟩
        · go_wp2_with fail
          refine (wakes_kind _).mono ?_
          rintro e w1 ⟨rfl, hb1⟩
          go_wp2
          go_ret
          exact ⟨rfl, hbl.trans ((hbj.trans (hb1.mono hbj.size)).mono hbl.size)⟩
end lawKindTables
end Go.Proofs.Ytdcilabbjejklaa
