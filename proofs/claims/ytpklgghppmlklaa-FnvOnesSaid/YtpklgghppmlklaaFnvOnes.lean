/- The walk of the law FnvOnes. -/
import Derived.Test.YtpklgghppmlklaaFnvSums
import Derived.Test.YtpklgghppmlklaaFnvMath
import Derived.Outline
namespace Go.Proofs.Ytpklgghppmlklaa
open Go.RowKit Go.WideShapes Go.ChangeShapes

namespace lawFnvOnes
def zeros : Array Value := Array.replicate 256 (.int .u64 0)
theorem zeros_at (i : Nat) (h : i < 256) : zeros[i]? = some (.int .u64 0) := by unfold zeros; simp [h]
theorem zero_run (w : World) : (zeroValue 34).run Try.prog w = .ok (.agg zeros) w := by kernel_rfl

/-- The table of sums: block g bears 256 numbers. -/
def Table (w : World) (g : Nat) (f : Nat → Int) : Prop := ∀ i, i < 256 → w.cell? ⟨g, i, none⟩ = some (.int .u64 (f i)) ∧ w.frozen? ⟨g, i, none⟩ = false
theorem Table.new (w : World) : Table (w.alloc (.cells zeros 34)) w.heap.size (fun _ => 0) := fun i hi => by
  refine ⟨?_, World.frozen?_alloc_at _ _ _ _ rfl⟩
  rw [World.cell?_alloc_at _ _ _ _ rfl, zeros_at i hi]
theorem Table.set {w : World} {g : Nat} {f : Nat → Int} (h : Table w g f) (j : Nat) (x : Int) (hj : j < 256) : Table (w.setCell ⟨g, j, none⟩ (.int .u64 x)) g (fun i => if i = j then x else f i) := fun i hi => by
  obtain ⟨h1, h2⟩ := h i hi
  obtain ⟨h3, _⟩ := h j hj
  refine ⟨?_, by rw [World.frozen?_setCell]; exact h2⟩
  by_cases e : i = j
  · subst e
    simp only [if_pos]
    exact World.cell?_setCell_same _ _ _ h3
  · simp only [if_neg e]
    rw [World.cell?_setCell_other _ _ _ _ (by intro e'; injection e' with _ e'; exact e e'.symm)]
    exact h1
theorem Table.alloc {w : World} {g : Nat} {f : Nat → Int} (h : Table w g f) (o : Obj) (hg : g < w.heap.size) : Table (w.alloc o) g f := fun i hi => by
  obtain ⟨h1, h2⟩ := h i hi
  exact ⟨by rw [World.cell?_alloc_lt _ _ _ hg]; exact h1, by rw [← h2]; exact World.frozen?_of_block (Below.heap_alloc w o g hg)⟩
theorem u8_of (i : Nat) (h : i < 256) : IntKind.u8.wrap (i : Int) = i := by simp only [IntKind.wrap, IntKind.signed, IntKind.bits]; simp; omega

theorem ends : (fsum 14695981039346656037 [0] != 14695981039346656037) = true ∧ (fsum 14695981039346656037 [0, 0] != fsum 14695981039346656037 [0]) = true ∧ (fsum 14695981039346656037 [1, 2] != fsum 14695981039346656037 [2, 1]) = true := by decide +kernel

set_option maxHeartbeats 1600000 in
/-- What stands behind the loop. -/
theorem tail_ (s : Int) (x y z u : Int) (hx : x = fsum s [0]) (hy : y = fsum s [0, 0]) (hz : z = fsum s [1, 2]) (hu : u = fsum s [2, 1]) :
    (∀ (W : World) (g : Nat), g = W.heap.size → Calls Try.prog 13 #[.int .u64 s, .slice (some ⟨g, 0, none⟩) 1 1] (W.alloc (.cells #[.int .u8 0] 5)) fun e w' => e = .returned (.int .u64 x) ∧ W.alloc (.cells #[.int .u8 0] 5) = w') ∧
    (∀ (W : World) (g : Nat), g = W.heap.size → Calls Try.prog 13 #[.int .u64 s, .slice (some ⟨g, 0, none⟩) 2 2] (W.alloc (.cells #[.int .u8 0, .int .u8 0] 5)) fun e w' => e = .returned (.int .u64 y) ∧ W.alloc (.cells #[.int .u8 0, .int .u8 0] 5) = w') ∧
    (∀ (W : World) (g : Nat), g = W.heap.size → Calls Try.prog 13 #[.int .u64 s, .slice (some ⟨g, 0, none⟩) 2 2] (W.alloc (.cells #[.int .u8 1, .int .u8 2] 5)) fun e w' => e = .returned (.int .u64 z) ∧ W.alloc (.cells #[.int .u8 1, .int .u8 2] 5) = w') ∧
    (∀ (W : World) (g : Nat), g = W.heap.size → Calls Try.prog 13 #[.int .u64 s, .slice (some ⟨g, 0, none⟩) 2 2] (W.alloc (.cells #[.int .u8 2, .int .u8 1] 5)) fun e w' => e = .returned (.int .u64 u) ∧ W.alloc (.cells #[.int .u8 2, .int .u8 1] 5) = w') := by
  subst hx; subst hy; subst hz; subst hu
  refine ⟨?_, ?_, ?_, ?_⟩ <;> (rintro W g rfl)
  · exact fnv_sum s _ 1 1 _ [0] _ (reads_new W [.int .u8 0] _ _ 1 rfl) (by simp [IsBytes]) (by unfold maxLen; omega)
  · exact fnv_sum s _ 2 2 _ [0, 0] _ (reads_new W [.int .u8 0, .int .u8 0] _ _ 2 rfl) (by simp [IsBytes]) (by unfold maxLen; omega)
  · exact fnv_sum s _ 2 2 _ [1, 2] _ (reads_new W [.int .u8 1, .int .u8 2] _ _ 2 rfl) (by simp [IsBytes]) (by unfold maxLen; omega)
  · exact fnv_sum s _ 2 2 _ [2, 1] _ (reads_new W [.int .u8 2, .int .u8 1] _ _ 2 rfl) (by simp [IsBytes]) (by unfold maxLen; omega)

set_option maxHeartbeats 1600000 in
set_option maxRecDepth 100000 in
theorem walk {H : Type} {enc : TypeId × Value → H} (w : World) {base : Nat} (v : Value) (d : DataW H) (p : List MemPlace) (hv : Value.okWide Try.prog w .any base 22 v)
    (ht : DataW.Trod enc Try.prog w 0 (fun _ => true) true 22 v d p) : Calls Try.prog 5 #[v] w fun e w' => e = .returned (.bool true) ∧ Below w.heap.size w w' := by
  obtain ⟨A, n, c, rfl, hnc, hcm, ha⟩ := open_asks3 hv ht
  unfold maxLen at hcm
  obtain ⟨y1, y2, y3⟩ := ends
  have T := Lib.hid (tail_ 14695981039346656037 _ _ _ _ rfl rfl rfl rfl)
  generalize fsum 14695981039346656037 [0] = x1 at *
  generalize fsum 14695981039346656037 [0, 0] = x2 at *
  generalize fsum 14695981039346656037 [1, 2] = x3 at *
  generalize fsum 14695981039346656037 [2, 1] = x4 at *
  clear hv ht
  go_enter Try.func5, Try.ntmps5
  go_wp2
  go_loopw [3] (fun i wr => ∃ (k : Nat), k ≤ n ∧ k ≤ 3 ∧ i = .int .i64 k ∧ Below w.heap.size w wr) (fun i _ => n - (intOf i).toNat)
  case atStart => exact ⟨0, Nat.zero_le _, by omega, rfl, Below.refl _ _⟩
  case round =>
    obtain ⟨k, hk, hk20, rfl, hbl⟩ := hrel
    by_cases hlt : k < n
    · by_cases h20 : k < 3
      · obtain ⟨b, o, s, kk, A', m, c', l, rfl, hb, hc1, hc2, hc3, hr, hl, hs, hkk, hmc, hcm'⟩ := ha.below hbl k hlt
        clear hc2 hc3 hr hl hkk hmc hcm'
        have hzr := zero_run
        have hd3 : decide ((k : Int) < 3) = true := by simp; omega
        go_wp2
        obtain ⟨wo, rfl⟩ : ∃ wo : World, wo = wr := ⟨_, rfl⟩
        go_loopw [5, 6] (fun i _ wl => ∃ (bb : Nat) (f : Nat → Int), bb ≤ 256 ∧ i = .int .i64 bb ∧ Table wl wo.heap.size f ∧ (∀ j, j < bb → f j = fstep s j) ∧ Below wo.heap.size wo wl ∧ wo.heap.size < wl.heap.size) (fun i _ _ => 256 - (intOf i).toNat)
        case atStart => exact ⟨0, _, by omega, rfl, Table.new wo, fun j h => absurd h (by omega), (Below.refl _ _).alloc (Nat.le_refl _) _, by simp⟩
        case round =>
          obtain ⟨bb, f, hbb, rfl, ht, hf, hbl2, hgl⟩ := hrel
          have hc2 := (hbl2.cell (p := ⟨b, o + k * 3, none⟩) hb).trans hc1
          by_cases h256 : bb < 256
          · have HF := Lib.hid hf
            have HT := Lib.hid ht
            obtain ⟨ht1, ht2⟩ := ht bb h256
            have hbg : b ≠ wo.heap.size := by omega
            have hdb : decide ((bb : Int) < 256) = true := by simp; omega
            clear hf ht hc1 hzr
            have S1 := Lib.hid (fnv_sum s (some ⟨wr.heap.size, 0, none⟩) 1 1 _ [(bb : Int)] _ (reads_new wr [.int .u8 bb] 5 (0, 0) 1 rfl) (by simp [IsBytes]; omega) (by unfold maxLen; omega))
            go_wp2_with fail
            refine Calls.mono S1.out ?_
            rintro e w1 ⟨rfl, rfl⟩
            go_wp2
            have hT3 := (HT.out.set bb (fsum s [(bb : Int)]) h256).alloc (.cells #[.int .u8 bb] 5) (by simpa [World.setCell] using hgl)
            have hB3 := (hbl2.setCell (p := ⟨wo.heap.size, bb, none⟩) (Nat.le_refl _) (.int .u64 (fsum s [(bb : Int)]))).alloc (by simpa [World.setCell] using Nat.le_of_lt hgl) (.cells #[.int .u8 bb] 5)
            have hS3 : wo.heap.size < ((wr.setCell ⟨wo.heap.size, bb, none⟩ (.int .u64 (fsum s [(bb : Int)]))).alloc (.cells #[.int .u8 bb] 5)).heap.size := by simp [World.setCell]; omega
            have hF3 : Hid (∀ j, j ≤ bb → (fun i => if i = bb then fsum s [(bb : Int)] else f i) j = fstep s j) := by
              intro j hj
              by_cases e : j = bb
              · subst e; simp; rfl
              · simp only [if_neg e]; exact HF.out j (by omega)
            generalize (fun i => if i = bb then fsum s [(bb : Int)] else f i) = f3 at *
            generalize (wr.setCell ⟨wo.heap.size, bb, none⟩ (.int .u64 (fsum s [(bb : Int)]))).alloc (.cells #[.int .u8 bb] 5) = w3 at *
            clear HF HT ht1 ht2 S1 hc2 hbl2 hgl
            go_loopw [6] (fun i wi => ∃ (j : Nat), j ≤ bb ∧ i = .int .i64 j ∧ Table wi wo.heap.size f3 ∧ Below wo.heap.size wo wi ∧ wo.heap.size < wi.heap.size) (fun i _ => bb - (intOf i).toNat)
            case atStart => exact ⟨0, Nat.zero_le _, rfl, hT3, hB3, hS3⟩
            case round =>
              obtain ⟨j, hj, rfl, hT4, hB4, hS4⟩ := hrel
              by_cases hjb : j < bb
              · have c1 := (hT4 j (by omega)).1
                have c2 := (hT4 bb (by omega)).1
                have hne : (f3 j == f3 bb) = false := by
                  rw [beq_eq_false_iff_ne, hF3.out j hj, hF3.out bb (Nat.le_refl _)]
                  intro e
                  have := fstep_inj_c (by omega) (by omega) e
                  omega
                have HT4 := Lib.hid hT4
                clear hT3 hB3 hS3 hT4
                generalize f3 j = x at *
                generalize f3 bb = y at *
                go_wp2
                go_quiet (fail)
                go_wp2
                go_roundw
                case rel => exact ⟨j + 1, by omega, by go_num, HT4.out, below_drewN hB4 _, hS4⟩
                case measure => simp [intOf]; omega
              · have HT4 := Lib.hid hT4
                obtain rfl : j = bb := by omega
                clear hT3 hB3 hS3 hT4
                go_wp2
                go_roundw
                case rel =>
                  exact ⟨j + 1, f3, by omega, by go_num, HT4.out, fun i hi => hF3.out i (by omega), hB4, hS4⟩
                case measure => simp [intOf]; omega
          · have hb256 : 256 ≤ bb := by omega
            clear ht hf hc1 hzr
            go_wp2
            go_roundw
            case rel => exact ⟨k + 1, by omega, by omega, by go_num, hbl.trans (hbl2.mono hbl.size)⟩
            case measure => simp [intOf]; omega
      · go_wp2_with (go_at_call 16; go_in)
        refine Calls.mono (T.out.1 _ _ (by simp)) ?_
        rintro e w1 ⟨rfl, rfl⟩
        go_wp2_with fail
        refine Calls.mono (T.out.2.1 _ _ (by simp)) ?_
        rintro e w1 ⟨rfl, rfl⟩
        go_wp2_with fail
        refine Calls.mono (T.out.1 _ _ (by simp)) ?_
        rintro e w1 ⟨rfl, rfl⟩
        go_wp2_with fail
        refine Calls.mono (T.out.2.2.1 _ _ (by simp)) ?_
        rintro e w1 ⟨rfl, rfl⟩
        go_wp2_with fail
        refine Calls.mono (T.out.2.2.2 _ _ (by simp)) ?_
        rintro e w1 ⟨rfl, rfl⟩
        go_wp2_with fail
        refine (wakes_fnv _).mono ?_
        rintro e w1 ⟨rfl, hb1⟩
        go_wp2
        go_ret
        have hz := hbl.size
        exact ⟨rfl, (((((hbl.alloc (by omega) _).alloc (by simp; omega) _).alloc (by simp; omega) _).alloc (by simp; omega) _).alloc (by simp; omega) _).trans (hb1.mono (by simp; omega))⟩
    · go_wp2_with (go_at_call 16; go_in)
      refine Calls.mono (T.out.1 _ _ (by simp)) ?_
      rintro e w1 ⟨rfl, rfl⟩
      go_wp2_with fail
      refine Calls.mono (T.out.2.1 _ _ (by simp)) ?_
      rintro e w1 ⟨rfl, rfl⟩
      go_wp2_with fail
      refine Calls.mono (T.out.1 _ _ (by simp)) ?_
      rintro e w1 ⟨rfl, rfl⟩
      go_wp2_with fail
      refine Calls.mono (T.out.2.2.1 _ _ (by simp)) ?_
      rintro e w1 ⟨rfl, rfl⟩
      go_wp2_with fail
      refine Calls.mono (T.out.2.2.2 _ _ (by simp)) ?_
      rintro e w1 ⟨rfl, rfl⟩
      go_wp2_with fail
      refine (wakes_fnv _).mono ?_
      rintro e w1 ⟨rfl, hb1⟩
      go_wp2
      go_ret
      have hz := hbl.size
      exact ⟨rfl, (((((hbl.alloc (by omega) _).alloc (by simp; omega) _).alloc (by simp; omega) _).alloc (by simp; omega) _).alloc (by simp; omega) _).trans (hb1.mono (by simp; omega))⟩
end lawFnvOnes
end Go.Proofs.Ytpklgghppmlklaa
