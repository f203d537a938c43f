/- How the game lays a map as bytes. -/
import Derived.Test.YtdcilabbjejklaaPutFull
import Derived.Test.YtdcilabbjejklaaKeep
import Derived.Test.YtdcilabbjejklaaGrow
import Derived.Lib.SmallJoins
namespace Go.Proofs.Ytdcilabbjejklaa
set_option maxRecDepth 20000
open Go.RowKit

theorem box_cell {W w' : World} {C B : Nat} {cs : Array Value} {t : TypeId} (h : Blk W C cs t) (hb : Below B W w') (hB : C < B) (i : Nat) (v : Value) (hv : cs[i]? = some v) : w'.cell? ⟨C, i, none⟩ = some v := (h.below hb hB).cell hv
theorem putI_9 {n : Int} (h0 : 0 ≤ n) (h : n ≤ 9223372036854775807) : (putI n).length ≤ 9 := put_nine (by omega)

theorem fsum_range (s : Int) (l : List Int) (hs : 0 ≤ s ∧ s ≤ 18446744073709551615) : 0 ≤ fsum s l ∧ fsum s l ≤ 18446744073709551615 := by
  induction l generalizing s with
  | nil => exact hs
  | cons c l ih => exact ih (fstep s c) (fstep_range s c)
theorem fnv_start (w : World) : Calls Try.prog 71 #[] w fun e w' => e = .returned (.int .u64 fstart) ∧ w = w' := by
  go_enter Try.func71, Try.ntmps71
  go_wp2_with fail
  go_ret
  exact ⟨rfl, rfl⟩

set_option maxHeartbeats 1600000 in
set_option maxRecDepth 20000 in
theorem map_lay (A : Option Addr) (n c B : Nat) (W H : Int) (ts : List Int) (w : World) (hr : Reads w B 1 A n (nums .u8 ts)) (hB : B ≤ w.heap.size) (hn : n ≤ 16384) (hW0 : 0 ≤ W) (hW1 : W ≤ 128) (hH0 : 0 ≤ H) (hH1 : H ≤ 128) (hbG : IsBytes (headG W H ts)) (hlG : (headG W H ts).length ≤ 20 + n) :
    Calls Try.prog 61 #[.agg #[.int .i64 W, .int .i64 H, .slice A n c]] w (GivesBytes w.heap.size w (encG W H ts)) := by
  obtain ⟨i0, hi0, hy0, hy1, hy2⟩ := info_parts info_u8
  go_enter Try.func61, Try.ntmps61
  go_wp2_with fail
  have hC := Blk.new w #[.int .i64 W, .int .i64 H, .slice A n c] 39
  have hb : Below w.heap.size w (w.alloc (.cells #[.int .i64 W, .int .i64 H, .slice A n c] 39)) := (Below.refl _ _).alloc (Nat.le_refl _) _
  have hsz : (w.alloc (.cells #[.int .i64 W, .int .i64 H, .slice A n c] 39)).heap.size = w.heap.size + 1 := by simp
  generalize hCC : w.heap.size = C at *
  generalize w.alloc (.cells #[.int .i64 W, .int .i64 H, .slice A n c] 39) = W0 at *
  have hsz' : W0.drew.heap.size = C + 1 := hsz
  have HD : Below (C + 1) W0 W0.drew := (Below.refl _ _).drew
  have HW1 : Hid (W0.drew = W0.drew) := rfl
  generalize hW1 : W0.drew = W1 at hsz' HD
  replace HW1 := Lib.hid hW1
  clear hW1
  have HA : Below (C + 1) W0 (W1.alloc (.cells #[.int .u8 84, .int .u8 71] 5)) := HD.alloc (by omega) _
  have HA2 : Below (C + 1) W0 (W1.alloc (.cells #[.int .u8 84, .int .u8 71] 5 (2, 3))) := HD.alloc (by omega) _
  have kc : (convert 37 37 (.slice (some ⟨C + 1, 0, none⟩) 2 2)).run Try.prog (W1.alloc (.cells #[.int .u8 84, .int .u8 71] 5)) = .ok (.slice (some ⟨C + 1, 0, none⟩) 2 2) (W1.alloc (.cells #[.int .u8 84, .int .u8 71] 5 (2, 3))) :=
    Go.Joins.run_convert_bytes_const_at W1 37 5 #[.int .u8 84, .int .u8 71] 2 2 (C + 1) hsz'.symm Try.underlying37 Try.underlying5
  have hwTG : Reads (W1.alloc (.cells #[.int .u8 84, .int .u8 71] 5 (2, 3))) (C + 2) 1 (some ⟨C + 1, 0, none⟩) 2 (nums .u8 [84, 71]) := by
    have := reads_new W1 (nums .u8 [84, 71]) 5 (2, 3) 2 rfl
    rw [hsz'] at this
    exact this
  have hs1 : C + 2 ≤ (W1.alloc (.cells #[.int .u8 84, .int .u8 71] 5 (2, 3))).heap.size := by
    have := hsz'
    simp only [World.alloc, Array.size_push] at this ⊢
    omega
  have P1 := Lib.hid (put_full_i (C + 1) (some ⟨C + 1, 0, none⟩) 2 2 [84, 71] W _ (.inr ⟨_, C + 2, rfl, rfl, by omega, hs1, hwTG⟩) rfl (by omega) (by omega) hW0 (by omega))
  have P2 := Lib.hid (fun A m c xs w' (ho : w'.ownsRow (C + 1) 5 1 (.slice A m c) m (nums .u8 xs)) (hs : C + 1 ≤ w'.heap.size) (hm : m ≤ 11) => put_full_i (C + 1) A m c xs H w' (.inl ho) (own_nums ho).symm hs (by omega) hH0 (by omega))
  have hz1 : ([84, 71] ++ putI W).length ≤ 11 := by have := putI_9 (n := W) (by omega) (by omega); simp; omega
  have hz2 : (([84, 71] ++ putI W) ++ putI H).length ≤ 20 := by have := putI_9 (n := H) (by omega) (by omega); rw [List.length_append]; omega
  have cA : (([84, 71] ++ putI W) ++ putI H).length + n ≤ maxLen := by unfold maxLen; omega
  have cB : ((([84, 71] ++ putI W) ++ putI H).length + n) * 1 ≤ 140737488355328 := by omega
  have HZ : Hid ((([84, 71] ++ putI W) ++ putI H) ++ ts = headG W H ts) := by show _ = _; simp [headG]
  generalize ([84, 71] ++ putI W : List Int) = z1 at *
  have HZ2 : Hid (z1 ++ putI H = z1 ++ putI H) := rfl
  generalize hzz : z1 ++ putI H = z2 at HZ hz2 cA cB
  replace HZ2 := Lib.hid hzz
  clear hzz
  have hr0 := ((hr.more hB).below hb).more (Nat.le_succ C)
  refine' wp_region_chain (fun w' => w'.cell? ⟨C, 0, none⟩ = some (.int .i64 W) ∧ w'.cell? ⟨C, 1, none⟩ = some (.int .i64 H) ∧ w'.cell? ⟨C, 2, none⟩ = some (.slice A n c) ∧ Below (C + 1) W0 w') (fun w' => w' = W1) [Tie.link (fun v w' => v = .slice (some ⟨C + 1, 0, none⟩) 2 2 ∧ w' = W1.alloc (.cells #[.int .u8 84, .int .u8 71] 5)), Tie.link (fun v w' => v = .slice (some ⟨C + 1, 0, none⟩) 2 2 ∧ w' = W1.alloc (.cells #[.int .u8 84, .int .u8 71] 5 (2, 3))), Tie.val _, Tie.val _, Tie.link (fun v w' => ∃ A' c', v = .slice A' (z1).length c' ∧ w'.ownsRow (C + 1) 5 1 (.slice A' (z1).length c') (z1).length (nums .u8 (z1))), Tie.val _, Tie.val _, Tie.link (fun v w' => ∃ A' c', v = .slice A' (z2).length c' ∧ w'.ownsRow (C + 1) 5 1 (.slice A' (z2).length c') (z2).length (nums .u8 (z2))), Tie.val _, Tie.val _, Tie.link (fun v w' => ∃ A' c', v = .slice A' (headG W H ts).length c' ∧ w'.ownsRow (C + 1) 5 1 (.slice A' (headG W H ts).length c') (headG W H ts).length (nums .u8 (headG W H ts))), Tie.link (fun v w' => ∃ A' c', v = .slice A' (headG W H ts).length c' ∧ w'.ownsRow (C + 1) 5 1 (.slice A' (headG W H ts).length c') (headG W H ts).length (nums .u8 (headG W H ts)))] (A := _) ?hA (by kernel_rfl) (by kernel_rfl) (by rfl) (by kernel_rfl) (by rw [HW1.out]; exact ⟨box_cell hC HD (Nat.lt_succ_self _) 0 _ rfl, box_cell hC HD (Nat.lt_succ_self _) 1 _ rfl, box_cell hC HD (Nat.lt_succ_self _) 2 _ rfl, HD⟩) (HW1.out) ?steps ?hend
  case hA =>
    intro us X hX
    simp only [fillT, Act.put, List.setIfInBounds_toArray, List.set_cons_zero, List.set_cons_succ, Nat.reduceAdd]
    (try go_simp)
    exact hX
  case steps =>
    refine ⟨fun us W' HR hst K hK => ?_, ?_⟩
    · obtain rfl : W' = W1 := hst
      go_simp
      exact hK _ _ ⟨box_cell hC HA (Nat.lt_succ_self _) 0 _ rfl, box_cell hC HA (Nat.lt_succ_self _) 1 _ rfl, box_cell hC HA (Nat.lt_succ_self _) 2 _ rfl, HA⟩ ⟨rfl, rfl⟩
    refine ⟨fun us W' HR hst K hK => ?_, ?_⟩
    · obtain ⟨e0, rfl⟩ : us 0 = _ ∧ W' = _ := hst
      simp only [e0] at hK ⊢
      go_simp
      exact hK _ _ ⟨box_cell hC HA2 (Nat.lt_succ_self _) 0 _ rfl, box_cell hC HA2 (Nat.lt_succ_self _) 1 _ rfl, box_cell hC HA2 (Nat.lt_succ_self _) 2 _ rfl, HA2⟩ ⟨rfl, rfl⟩
    refine ⟨fun us W' s HR hs hst K hK => ?_, ?_⟩
    · obtain ⟨k0, k1, k2, _⟩ := HR
      (try clear hst); (try clear hs)
      go_simp
      refine hK _ ?_
      rfl
    refine ⟨fun us W' s HR hs hst K hK => ?_, ?_⟩
    · obtain ⟨k0, k1, k2, _⟩ := HR
      (try clear hst); (try clear hs)
      go_simp
      refine hK _ ?_
      rfl
    refine ⟨fun us W' HR hst K hK => ?_, ?_⟩
    · obtain ⟨e1, rfl⟩ : us 1 = _ ∧ W' = _ := hst
      simp only [e1] at hK ⊢
      go_simp
      (with_reducible refine Calls.mono P1.out ?_)
      rintro e wn ⟨A1, c1, rfl, hO1, hbn⟩
      have HB := HA2.trans hbn
      exact hK _ _ ⟨box_cell hC HB (Nat.lt_succ_self _) 0 _ rfl, box_cell hC HB (Nat.lt_succ_self _) 1 _ rfl, box_cell hC HB (Nat.lt_succ_self _) 2 _ rfl, HB⟩ ⟨A1, c1, rfl, hO1⟩
    refine ⟨fun us W' s HR hs hst K hK => ?_, ?_⟩
    · obtain ⟨k0, k1, k2, _⟩ := HR
      (try clear hst); (try clear hs)
      go_simp
      refine hK _ ?_
      rfl
    refine ⟨fun us W' s HR hs hst K hK => ?_, ?_⟩
    · obtain ⟨k0, k1, k2, _⟩ := HR
      (try clear hst); (try clear hs)
      go_simp
      refine hK _ ?_
      rfl
    refine ⟨fun us W' HR hst K hK => ?_, ?_⟩
    · obtain ⟨A1, c1, e4, hO1⟩ : ∃ A' c', us 4 = _ ∧ _ := hst
      simp only [e4] at hK ⊢
      obtain ⟨_, _, _, HB⟩ := HR
      have hs2 : C + 1 ≤ W'.heap.size := Nat.le_trans (Nat.le_of_eq hsz.symm) HB.size
      go_simp
      (with_reducible refine Calls.mono (P2.out _ _ _ _ _ hO1 hs2 hz1) ?_)
      rintro e wn ⟨A2, c2, rfl, hO2, hbn⟩
      rw [HZ2.out] at hO2 ⊢
      replace HB := HB.trans hbn
      exact hK _ _ ⟨box_cell hC HB (Nat.lt_succ_self _) 0 _ rfl, box_cell hC HB (Nat.lt_succ_self _) 1 _ rfl, box_cell hC HB (Nat.lt_succ_self _) 2 _ rfl, HB⟩ ⟨A2, c2, rfl, hO2⟩
    refine ⟨fun us W' s HR hs hst K hK => ?_, ?_⟩
    · obtain ⟨k0, k1, k2, _⟩ := HR
      (try clear hst); (try clear hs)
      go_simp
      refine hK _ ?_
      rfl
    refine ⟨fun us W' s HR hs hst K hK => ?_, ?_⟩
    · obtain ⟨k0, k1, k2, _⟩ := HR
      (try clear hst); (try clear hs)
      go_simp
      refine hK _ ?_
      rfl
    refine ⟨fun us W' HR hst K hK => ?_, ?_⟩
    · obtain ⟨A2, c2, e7, hO2⟩ : ∃ A' c', us 7 = _ ∧ _ := hst
      simp only [e7] at hK ⊢
      obtain ⟨_, _, _, HB⟩ := HR
      have hs2 : C + 1 ≤ W'.heap.size := Nat.le_trans (Nat.le_of_eq hsz.symm) HB.size
      have hrm := hr0.below HB
      rw [if_pos (by rfl)]
      refine wp_append_any _ (.tmp 11) (.tmp 13) _ (by rfl) (C + 1) 5 i0 _ 1 1 Try.underlying37 hi0 hy0 hy1 hy2 rfl Nat.one_pos (.slice A2 z2.length c2) _ _ (by rfl) hO2 _ _ _ _ _ (by rfl) hrm (nums_one _ _) cA cB hs2 ?_
      intro A5 c5 w5 hO5 hb5
      replace HB := HB.trans hb5
      rw [← nums_app, HZ.out] at hO5
      have hl5 := own_nums hO5
      rw [hl5] at hO5
      exact hK _ _ ⟨box_cell hC HB (Nat.lt_succ_self _) 0 _ rfl, box_cell hC HB (Nat.lt_succ_self _) 1 _ rfl, box_cell hC HB (Nat.lt_succ_self _) 2 _ rfl, HB⟩ ⟨A5, c5, by rw [hl5], hO5⟩
    refine ⟨fun us W' HR hst K hK => ?_, ?_⟩
    · obtain ⟨A2, c2, e10, hO2⟩ : ∃ A' c', us 10 = _ ∧ _ := hst
      simp only [e10] at hK ⊢
      go_simp
      exact hK _ _ HR ⟨A2, c2, rfl, hO2⟩
    trivial
  case hend =>
    intro us W' HR hst
    obtain ⟨A2, c2, e11, hO2⟩ : ∃ A' c', us 11 = _ ∧ _ := hst
    obtain ⟨_, _, _, HB⟩ := HR
    clear kc P1 P2 HA HA2
    generalize us 0 = u0 at *
    simp only [e11]
    clear e11
    replace HB := Lib.hid HB
    have hbz : IsBytes (headG W H ts) := hbG
    have hs2 : C + 1 ≤ W'.heap.size := Nat.le_trans (Nat.le_of_eq hsz.symm) HB.out.size
    have hlz : (headG W H ts).length ≤ 20 + n := hlG
    have HE : Hid (headG W H ts ++ eight (fsum fstart (headG W H ts)) = encG W H ts) := rfl
    have h8 := eight_len (fsum fstart (headG W H ts))
    have hf := fsum_range fstart (headG W H ts) (by unfold fstart; decide)
    generalize headG W H ts = z at *
    have CS := Lib.hid (fnv_sum fstart A2 z.length c2 _ z W' (Reads.of_own hO2) hbz (by unfold maxLen; omega))
    go_wp2_with fail
    refine Calls.mono (fnv_start _) ?_
    rintro e w1 ⟨rfl, rfl⟩
    go_wp2_with fail
    refine Calls.mono CS.out ?_
    rintro e w1 ⟨rfl, rfl⟩
    clear CS
    have C8 := Lib.hid (fnv_eight (fsum fstart z) W' hf.1 hf.2)
    generalize fsum fstart z = x at *
    go_wp2_with fail
    refine Calls.mono C8.out ?_
    rintro e w1 ⟨A8, c8, rfl, hO8, hb8⟩
    clear C8
    have hO2' := own_below hO2 hb8
    have hs3 : C + 1 ≤ w1.heap.size := Nat.le_trans hs2 hb8.size
    have hr8 := Reads.of_own hO8
    have cA' : z.length + (eight x).length ≤ maxLen := by unfold maxLen; omega
    have cB' : (z.length + (eight x).length) * 1 ≤ 140737488355328 := by omega
    replace HB := Lib.hid (HB.out.trans (hb8.mono hs2))
    clear hb8 hO2 hs2 hO8
    go_wp2_with (at_builtin; refine wpList_append_reads _ rfl (.tmp 15) (.tmp 19) _ rfl (C + 1) 5 i0 _ 1 1 Try.underlying37 hi0 hy0 hy1 hy2 rfl Nat.one_pos _ _ _ rfl hO2' _ _ _ _ _ rfl hr8 (nums_one _ _) cA' cB' hs3 ?_; intro A9 c9 w9 hO9 hb9)
    go_ret
    rw [← nums_app, HE.out] at hO9
    have hl9 := own_nums hO9
    rw [hl9] at hO9
    exact ⟨A9, c9, by rw [hl9]; rfl, own_mono hO9 (Nat.le_succ C), hb.trans ((HB.out.trans hb9).mono (Nat.le_succ C))⟩
end Go.Proofs.Ytdcilabbjejklaa
