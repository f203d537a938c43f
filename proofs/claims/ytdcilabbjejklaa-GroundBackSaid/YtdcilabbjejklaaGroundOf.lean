/- ground.Near and the page's; the argument of the laws of layer 6, opened. -/
import Derived.Test.YtdcilabbjejklaaGroundBeside
import Derived.Test.YtdcilabbjejklaaOpen
namespace Go.Proofs.Ytdcilabbjejklaa
open Go.RowKit Go.WideShapes Go.ChangeShapes Go.ChangeAt

/-- A slice over a whole new array of numbers. -/
def GivesArr (base : Nat) (w : World) (l : List Int) (x : Int) (e : Ending) (w' : World) : Prop :=
  ∃ g, e = .returned (.tuple #[.slice (some ⟨g, 0, none⟩) l.length l.length, .int .i64 x]) ∧ base ≤ g ∧ g < w'.heap.size ∧ (∀ j, j < l.length → w'.cell? ⟨g, j, none⟩ = some (.int .i64 (l.getD j 0))) ∧ (∀ j, w'.frozen? ⟨g, j, none⟩ = false) ∧ Below base w w'

theorem near_bad {W H t : Int} {A : Option Addr} {n c B : Nat} {l : List Int} (w : World) (hr : Reads w B 1 A n (nums .u8 l)) (hB : B ≤ w.heap.size) (hl : IsBytes l) (h : isG W H l = false) :
    Calls Try.prog 26 #[.agg #[.int .i64 W, .int .i64 H, .slice A n c], .int .i64 t] w fun e w' => e = .returned (.tuple #[.slice none 0 0, .int .i64 1]) ∧ Below w.heap.size w w' := by
  have M := fun W' (hr : Reads W' W'.heap.size 1 A n (nums .u8 l)) => ground_may W H A n c _ l W' hr (Nat.le_refl _) hl
  rw [h] at M
  have M := Lib.hid M
  have hr' := (hr.alloc hB (.cells #[.int .i64 W, .int .i64 H, .slice A n c] 39)).more (Nat.le_trans hB (show w.heap.size ≤ (w.alloc (.cells #[.int .i64 W, .int .i64 H, .slice A n c] 39)).heap.size by simp))
  go_enter Try.func26, Try.ntmps26
  go_wp2_with fail
  refine Calls.mono (M.out _ hr') ?_
  rintro e w1 ⟨rfl, hb1⟩
  go_wp2
  go_ret2
  exact ⟨rfl, ((Below.refl _ _).alloc (Nat.le_refl _) _).trans (hb1.mono (by simp))⟩

theorem isG_bounds {W H : Int} {l : List Int} (h : isG W H l = true) : 1 ≤ W ∧ W ≤ 128 ∧ 1 ≤ H ∧ H ≤ 128 ∧ (l.length : Int) = W * H ∧ ∀ x ∈ l, x ≤ 5 := of_decide_eq_true h

/-- The ground's box behind a call. -/
theorem box3 {w w' : World} {a b c : Value} {t : TypeId} (h : Below (w.alloc (.cells #[a, b, c] t)).heap.size (w.alloc (.cells #[a, b, c] t)) w') :
    w'.cell? ⟨w.heap.size, 0, none⟩ = some a ∧ w'.cell? ⟨w.heap.size, 1, none⟩ = some b ∧ w'.cell? ⟨w.heap.size, 2, none⟩ = some c ∧ w.heap.size < w'.heap.size ∧ Below w.heap.size w w' := by
  have hlt : ∀ k, (⟨w.heap.size, k, none⟩ : Addr).block < (w.alloc (.cells #[a, b, c] t)).heap.size := fun k => by simp
  refine ⟨?_, ?_, ?_, ?_, ((Below.refl _ _).alloc (Nat.le_refl _) _).trans (h.mono (by simp))⟩
  · rw [h.cell (hlt 0), World.cell?_alloc_at _ _ _ _ rfl]; rfl
  · rw [h.cell (hlt 1), World.cell?_alloc_at _ _ _ _ rfl]; rfl
  · rw [h.cell (hlt 2), World.cell?_alloc_at _ _ _ _ rfl]; rfl
  · have := h.size; simp at this; omega
theorem box3_more {w w' w'' : World} {g : Nat} {a b c : Value} (h : w'.cell? ⟨g, 0, none⟩ = some a ∧ w'.cell? ⟨g, 1, none⟩ = some b ∧ w'.cell? ⟨g, 2, none⟩ = some c ∧ g < w'.heap.size ∧ Below w.heap.size w w') (hb : Below w'.heap.size w' w'') :
    w''.cell? ⟨g, 0, none⟩ = some a ∧ w''.cell? ⟨g, 1, none⟩ = some b ∧ w''.cell? ⟨g, 2, none⟩ = some c ∧ g < w''.heap.size ∧ Below w.heap.size w w'' := by
  obtain ⟨h0, h1, h2, h3, h4⟩ := h
  exact ⟨(hb.cell (p := ⟨g, 0, none⟩) h3).trans h0, (hb.cell (p := ⟨g, 1, none⟩) h3).trans h1, (hb.cell (p := ⟨g, 2, none⟩) h3).trans h2, Nat.lt_of_lt_of_le h3 hb.size, h4.trans (hb.mono h4.size)⟩

theorem near_none {W H t : Int} {A : Option Addr} {n c B : Nat} {l : List Int} (w : World) (hr : Reads w B 1 A n (nums .u8 l)) (hB : B ≤ w.heap.size) (hl : IsBytes l) (h : isG W H l = true) (ht : tileB W H t = false) :
    Calls Try.prog 26 #[.agg #[.int .i64 W, .int .i64 H, .slice A n c], .int .i64 t] w fun e w' => e = .returned (.tuple #[.slice none 0 0, .int .i64 3]) ∧ Below w.heap.size w w' := by
  have M := fun W' (hr : Reads W' W'.heap.size 1 A n (nums .u8 l)) => ground_may W H A n c _ l W' hr (Nat.le_refl _) hl
  rw [h] at M
  have M := Lib.hid M
  have hr' := (hr.alloc hB (.cells #[.int .i64 W, .int .i64 H, .slice A n c] 39)).more (Nat.le_trans hB (show w.heap.size ≤ (w.alloc (.cells #[.int .i64 W, .int .i64 H, .slice A n c] 39)).heap.size by simp))
  obtain ⟨h1, h2, h3, h4, _⟩ := isG_bounds h
  have T := fun W' => ground_is W H t A n c W' h1 h2 h3 h4
  rw [ht] at T
  have T := Lib.hid T
  go_enter Try.func26, Try.ntmps26
  go_wp2_with fail
  refine Calls.mono (M.out _ hr') ?_
  rintro e w1 ⟨rfl, hb1⟩
  have hX := box3 hb1
  obtain ⟨c0, c1, c2, g2, hbw⟩ := hX
  clear hb1
  go_wp2_with fail
  refine Calls.mono (T.out _) ?_
  rintro e w2 ⟨rfl, hb2⟩
  go_wp2
  go_ret2
  exact ⟨rfl, hbw.trans (hb2.mono hbw.size)⟩

theorem near_yes {W H t : Int} {A : Option Addr} {n c B : Nat} {l : List Int} (w : World) (hr : Reads w B 1 A n (nums .u8 l)) (hB : B ≤ w.heap.size) (hl : IsBytes l) (h : isG W H l = true) (ht : tileB W H t = true) :
    Calls Try.prog 26 #[.agg #[.int .i64 W, .int .i64 H, .slice A n c], .int .i64 t] w (GivesArr w.heap.size w (nearL W H t) 0) := by
  have M := fun W' (hr : Reads W' W'.heap.size 1 A n (nums .u8 l)) => ground_may W H A n c _ l W' hr (Nat.le_refl _) hl
  rw [h] at M
  have M := Lib.hid M
  have hr' := (hr.alloc hB (.cells #[.int .i64 W, .int .i64 H, .slice A n c] 39)).more (Nat.le_trans hB (show w.heap.size ≤ (w.alloc (.cells #[.int .i64 W, .int .i64 H, .slice A n c] 39)).heap.size by simp))
  obtain ⟨h1, h2, h3, h4, _⟩ := isG_bounds h
  obtain ⟨t0, t1⟩ := of_decide_eq_true ht
  have T := fun W' => ground_is W H t A n c W' h1 h2 h3 h4
  rw [ht] at T
  have T := Lib.hid T
  have N := Lib.hid (fun W' => ground_beside W H t A n c W' h1 h2 h3 h4 t0 t1)
  clear hr
  go_enter Try.func26, Try.ntmps26
  go_wp2_with fail
  refine Calls.mono (M.out _ hr') ?_
  rintro e w1 ⟨rfl, hb1⟩
  have hX := box3 hb1
  obtain ⟨c0, c1, c2, g2, hbw⟩ := hX
  clear hb1
  go_wp2_with fail
  refine Calls.mono (T.out _) ?_
  rintro e w2 ⟨rfl, hb2⟩
  have hX := box3_more ⟨c0, c1, c2, g2, hbw⟩ hb2
  clear c0 c1 c2 g2 hbw hb2
  obtain ⟨c0, c1, c2, g2, hbw⟩ := hX
  go_wp2_with fail
  refine Calls.mono (N.out _) ?_
  rintro e w3 ⟨rfl, hb3⟩
  have hbw3 := hbw.trans (hb3.mono hbw.size)
  clear c0 c1 c2 g2 hbw hb3
  have e : (nums .i64 (nearL W H t)).toArray = #[.int .i64 (nearI W H t 0), .int .i64 (nearI W H t 1), .int .i64 (nearI W H t 2), .int .i64 (nearI W H t 3), .int .i64 (nearI W H t 4), .int .i64 (nearI W H t 5), .int .i64 (nearI W H t 6), .int .i64 (nearI W H t 7)] := rfl
  rw [e]
  have HL : Hid (nearL W H t = [nearI W H t 0, nearI W H t 1, nearI W H t 2, nearI W H t 3, nearI W H t 4, nearI W H t 5, nearI W H t 6, nearI W H t 7]) := rfl
  clear e
  go_wp2
  go_ret2
  refine ⟨w3.heap.size, rfl, hbw3.size, by simp, ?_, ?_, hbw3.alloc hbw3.size _⟩
  · intro j hj
    rw [HL.out] at hj ⊢
    rw [World.cell?_alloc_at _ _ _ _ rfl]
    have hj8 : j < 8 := by simpa using hj
    rcases (show j = 0 ∨ j = 1 ∨ j = 2 ∨ j = 3 ∨ j = 4 ∨ j = 5 ∨ j = 6 ∨ j = 7 by omega) with rfl | rfl | rfl | rfl | rfl | rfl | rfl | rfl <;> rfl
  · exact fun j => World.frozen?_alloc_at _ _ _ _ rfl

/-- An array of numbers, wherever it lies, reads as a list. -/
theorem reads_arr {w : World} {g : Nat} {l : List Int} (hg : g < w.heap.size) (h : ∀ j, j < l.length → w.cell? ⟨g, j, none⟩ = some (.int .i64 (l.getD j 0))) : Reads w w.heap.size 1 (some ⟨g, 0, none⟩) l.length (nums .i64 l) := by
  refine ⟨by simp [nums], fun _ => ⟨_, rfl, hg, fun j u hu => ?_⟩⟩
  have hj : j < l.length := by
    have := (List.getElem?_eq_some_iff.1 hu).1
    simpa [nums] using this
  rw [Addr.add_lit, Nat.zero_add, h j hj, ← hu]
  simp [nums, List.getD, hj]

set_option maxHeartbeats 800000 in
set_option maxRecDepth 20000 in
theorem spoil_arr (g n base : Nat) (l : List Int) (w : World) (hl : l.length = n) (hb : base ≤ g) (hg : g < w.heap.size) (hc : ∀ j, j < n → w.cell? ⟨g, j, none⟩ = some (.int .i64 (l.getD j 0))) (hf : ∀ j, w.frozen? ⟨g, j, none⟩ = false) (h1 : 1 ≤ n) (hn : n ≤ 2097152) :
    Calls Try.prog 29 #[.slice (some ⟨g, 0, none⟩) n n] w fun e w' => e = .returned (.tuple #[]) ∧ Below base w w' := by
  obtain ⟨i0, hi0, hz0, hz1, hz2⟩ := info_parts info_int
  have H0 : Hid (∀ j, j < n → ∃ y, w.cell? ⟨g, j, none⟩ = some (.int .i64 y)) := fun j hj => ⟨_, hc j hj⟩
  have F0 := Lib.hid hf
  have HL := Lib.hid hl
  clear hc hf hl
  go_enter Try.func29, Try.ntmps29
  go_wp2
  go_loopw [2] (fun i wr => ∃ (k : Nat), k ≤ n ∧ i = .int .i64 k ∧ Hid (∀ j, j < n → ∃ y, wr.cell? ⟨g, j, none⟩ = some (.int .i64 y)) ∧ Hid (∀ j, wr.frozen? ⟨g, j, none⟩ = false) ∧ g < wr.heap.size ∧ Below base w wr) (fun i _ => n - (intOf i).toNat)
  case atStart => exact ⟨0, Nat.zero_le _, rfl, H0, F0, hg, Below.refl _ _⟩
  case round =>
    obtain ⟨k, hk, rfl, HC, HF, hgr, hbl⟩ := hrel
    by_cases hlt : k < n
    · obtain ⟨y, hc⟩ := HC.out k hlt
      have hf := HF.out k
      go_wp2
      go_roundw
      case rel =>
        refine ⟨k + 1, by omega, by go_num, ?_, ?_, by simpa using hgr, hbl.setCell hb _⟩
        · intro j hj
          by_cases hjk : j = k
          · subst hjk
            exact ⟨_, World.cell?_setCell_same _ _ _ hc⟩
          · obtain ⟨y', hy'⟩ := HC.out j hj
            exact ⟨y', by rw [World.cell?_setCell_other _ _ _ _ (by simp <;> omega)]; exact hy'⟩
        · intro j
          rw [World.frozen?_setCell]; exact HF.out j
      case measure => simp [intOf]; omega
    · obtain rfl : k = n := by omega
      have hex : ∃ l' : List Int, l'.length = k ∧ ∀ j, j < k → wr.cell? ⟨g, j, none⟩ = some (.int .i64 (l'.getD j 0)) := by
        have key : ∀ m, m ≤ k → ∃ l' : List Int, l'.length = m ∧ ∀ j, j < m → wr.cell? ⟨g, j, none⟩ = some (.int .i64 (l'.getD j 0)) := by
          intro m
          induction m with
          | zero => exact fun _ => ⟨[], rfl, fun j hj => by omega⟩
          | succ m ih =>
            intro hm
            obtain ⟨l', h1, h2⟩ := ih (by omega)
            obtain ⟨y, hy⟩ := HC.out m (by omega)
            refine ⟨l' ++ [y], by simp [h1], fun j hj => ?_⟩
            by_cases hjm : j = m
            · subst hjm; rw [hy]; simp [List.getD, ← h1]
            · rw [h2 j (by omega)]; simp [List.getD, List.getElem?_append, h1, show j < m by omega]
        exact key k (Nat.le_refl _)
      obtain ⟨l', hl', hc'⟩ := hex
      have hr' := reads_arr hgr (fun j hj => hc' j (by omega))
      have HR := Lib.hid hr'
      have HL' := Lib.hid hl'
      clear hr' hl' hc' HC HF
      go_wp2_with (at_builtin; refine wpList_append_grows _ rfl _ _ _ rfl 3 i0 _ 1 8 Try.underlying22 hi0 hz0 hz1 hz2 rfl (by omega) _ _ _ (nums .i64 l') rfl (fun h => by cases h) (by simp [nums, HL'.out]) (fun b hb j u hu => by injection hb with hb; subst hb; obtain ⟨ad, he, _, hcc⟩ := ((HR.out.alloc (Nat.le_refl _) (.cells #[.int .i64 5] 3)).2 (by rw [HL'.out]; omega)); injection he with he; subst he; exact hcc j u hu) ⟨wr.heap.size, 0, none⟩ 1 1 [.int .i64 5] rfl rfl (World.news_of_block (cs := #[.int .i64 5]) (t := 3) (fr := (0, 0)) (heap_alloc_new wr _)) (one_int _ _) (by omega) (by unfold maxLen; omega) (by omega) ?_; intro v2 w2 hown2 hg2)
      go_end0
      exact ⟨rfl, (hbl.alloc (Nat.le_trans hb (by omega)) _).grown hg2 (by simp; omega) (fun k hk => by cases hk)⟩
end Go.Proofs.Ytdcilabbjejklaa
