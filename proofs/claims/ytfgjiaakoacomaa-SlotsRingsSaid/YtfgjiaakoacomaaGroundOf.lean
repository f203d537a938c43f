/- ground.Near and the page's; the argument of the laws of layer 6, opened. -/
import Derived.Test.YtfgjiaakoacomaaGroundBeside
import Derived.Test.YtfgjiaakoacomaaOpen
namespace Go.Proofs.Ytfgjiaakoacomaa
set_option maxRecDepth 20000
open Go.RowKit Go.WideShapes Go.ChangeShapes Go.ChangeAt

/-- A slice over a whole new array of numbers. -/
def GivesArr (base : Nat) (w : World) (l : List Int) (x : Int) (e : Ending) (w' : World) : Prop :=
  ∃ g, e = .returned (.tuple #[.slice (some ⟨g, 0, none⟩) l.length l.length, .int .i64 x]) ∧ base ≤ g ∧ g < w'.heap.size ∧ (∀ j, j < l.length → w'.cell? ⟨g, j, none⟩ = some (.int .i64 (l.getD j 0))) ∧ (∀ j, w'.frozen? ⟨g, j, none⟩ = false) ∧ Below base w w'

theorem isG_bounds {W H : Int} {l : List Int} (h : isG W H l = true) : 1 ≤ W ∧ W ≤ 128 ∧ 1 ≤ H ∧ H ≤ 128 ∧ (l.length : Int) = W * H ∧ ∀ x ∈ l, x ≤ 5 := of_decide_eq_true h

/-- The ground's box behind a call. -/
theorem box3 {w w' : World} {a b c : Value} {t : TypeId} (h : Below (w.alloc (.cells #[a, b, c] t)).heap.size (w.alloc (.cells #[a, b, c] t)) w') :
    w'.cell? ⟨w.heap.size, 0, none⟩ = some a ∧ w'.cell? ⟨w.heap.size, 1, none⟩ = some b ∧ w'.cell? ⟨w.heap.size, 2, none⟩ = some c ∧ w.heap.size < w'.heap.size ∧ Below w.heap.size w w' := by
  have hlt : ∀ k, (⟨w.heap.size, k, none⟩ : Addr).block < (w.alloc (.cells #[a, b, c] t)).heap.size := fun k => by simp
  refine ⟨?_, ?_, ?_, ?_, ((Below.refl _ _).alloc (Nat.le_refl _) _).trans (h.mono (by simp))⟩
  · rw [h.cell (hlt 0), World.cell?_alloc_at _ _ _ _ rfl]; rfl
  · rw [h.cell (hlt 1), World.cell?_alloc_at _ _ _ _ rfl]; rfl
  · rw [h.cell (hlt 2), World.cell?_alloc_at _ _ _ _ rfl]; rfl
  · have := h.size; simp at this; omega
theorem box3_more {w w' w'' : World} {g : Nat} {a b c : Value} (h : w'.cell? ⟨g, 0, none⟩ = some a ∧ w'.cell? ⟨g, 1, none⟩ = some b ∧ w'.cell? ⟨g, 2, none⟩ = some c ∧ g < w'.heap.size ∧ Below w.heap.size w w') (hb : Below w'.heap.size w' w'') :
    w''.cell? ⟨g, 0, none⟩ = some a ∧ w''.cell? ⟨g, 1, none⟩ = some b ∧ w''.cell? ⟨g, 2, none⟩ = some c ∧ g < w''.heap.size ∧ Below w.heap.size w w'' := by
  obtain ⟨h0, h1, h2, h3, h4⟩ := h
  exact ⟨(hb.cell (p := ⟨g, 0, none⟩) h3).trans h0, (hb.cell (p := ⟨g, 1, none⟩) h3).trans h1, (hb.cell (p := ⟨g, 2, none⟩) h3).trans h2, Nat.lt_of_lt_of_le h3 hb.size, h4.trans (hb.mono h4.size)⟩

/-- An array of numbers, wherever it lies, reads as a list. -/
theorem reads_arr {w : World} {g : Nat} {l : List Int} (hg : g < w.heap.size) (h : ∀ j, j < l.length → w.cell? ⟨g, j, none⟩ = some (.int .i64 (l.getD j 0))) : Reads w w.heap.size 1 (some ⟨g, 0, none⟩) l.length (nums .i64 l) := by
  refine ⟨by simp [nums], fun _ => ⟨_, rfl, hg, fun j u hu => ?_⟩⟩
  have hj : j < l.length := by
    have := (List.getElem?_eq_some_iff.1 hu).1
    simpa [nums] using this
  rw [Addr.add_lit, Nat.zero_add, h j hj, ← hu]
  simp [nums, List.getD, hj]

set_option maxHeartbeats 800000 in
set_option maxRecDepth 20000 in
theorem spoil_arr (g n base : Nat) (l : List Int) (w : World) (hl : l.length = n) (hb : base ≤ g) (hg : g < w.heap.size) (hc : ∀ j, j < n → w.cell? ⟨g, j, none⟩ = some (.int .i64 (l.getD j 0))) (hf : ∀ j, w.frozen? ⟨g, j, none⟩ = false) (h1 : 1 ≤ n) (hn : n ≤ 2097152) :
    Calls Try.prog 17 #[.slice (some ⟨g, 0, none⟩) n n] w fun e w' => e = .returned (.tuple #[]) ∧ Below base w w' := by
  obtain ⟨i0, hi0, hz0, hz1, hz2⟩ := info_parts info_int
  have H0 : Hid (∀ j, j < n → ∃ y, w.cell? ⟨g, j, none⟩ = some (.int .i64 y)) := fun j hj => ⟨_, hc j hj⟩
  have F0 := Lib.hid hf
  have HL := Lib.hid hl
  clear hc hf hl
  go_enter Try.func17, Try.ntmps17
  go_wp2
  go_loopw [2] (fun i wr => ∃ (k : Nat), k ≤ n ∧ i = .int .i64 k ∧ Hid (∀ j, j < n → ∃ y, wr.cell? ⟨g, j, none⟩ = some (.int .i64 y)) ∧ Hid (∀ j, wr.frozen? ⟨g, j, none⟩ = false) ∧ g < wr.heap.size ∧ Below base w wr) (fun i _ => n - (intOf i).toNat)
  case atStart => exact ⟨0, Nat.zero_le _, rfl, H0, F0, hg, Below.refl _ _⟩
  case round =>
    obtain ⟨k, hk, rfl, HC, HF, hgr, hbl⟩ := hrel
    by_cases hlt : k < n
    · obtain ⟨y, hc⟩ := HC.out k hlt
      have hf := HF.out k
      go_wp2
      go_roundw
      case rel =>
        refine ⟨k + 1, by omega, by go_num, ?_, ?_, by simpa using hgr, hbl.setCell hb _⟩
        · intro j hj
          by_cases hjk : j = k
          · subst hjk
            exact ⟨_, World.cell?_setCell_same _ _ _ hc⟩
          · obtain ⟨y', hy'⟩ := HC.out j hj
            exact ⟨y', by rw [World.cell?_setCell_other _ _ _ _ (by simp <;> omega)]; exact hy'⟩
        · intro j
          rw [World.frozen?_setCell]; exact HF.out j
      case measure => simp [intOf]; omega
    · obtain rfl : k = n := by omega
      have hex : ∃ l' : List Int, l'.length = k ∧ ∀ j, j < k → wr.cell? ⟨g, j, none⟩ = some (.int .i64 (l'.getD j 0)) := by
        have key : ∀ m, m ≤ k → ∃ l' : List Int, l'.length = m ∧ ∀ j, j < m → wr.cell? ⟨g, j, none⟩ = some (.int .i64 (l'.getD j 0)) := by
          intro m
          induction m with
          | zero => exact fun _ => ⟨[], rfl, fun j hj => by omega⟩
          | succ m ih =>
            intro hm
            obtain ⟨l', h1, h2⟩ := ih (by omega)
            obtain ⟨y, hy⟩ := HC.out m (by omega)
            refine ⟨l' ++ [y], by simp [h1], fun j hj => ?_⟩
            by_cases hjm : j = m
            · subst hjm; rw [hy]; simp [List.getD, ← h1]
            · rw [h2 j (by omega)]; simp [List.getD, List.getElem?_append, h1, show j < m by omega]
        exact key k (Nat.le_refl _)
      obtain ⟨l', hl', hc'⟩ := hex
      have hr' := reads_arr hgr (fun j hj => hc' j (by omega))
      have HR := Lib.hid hr'
      have HL' := Lib.hid hl'
      clear hr' hl' hc' HC HF
      go_wp2_with (at_builtin; refine wpList_append_grows _ rfl _ _ _ rfl 3 i0 _ 1 8 Try.underlying30 hi0 hz0 hz1 hz2 rfl (by omega) _ _ _ (nums .i64 l') rfl (fun h => by cases h) (by simp [nums, HL'.out]) (fun b hb j u hu => by injection hb with hb; subst hb; obtain ⟨ad, he, _, hcc⟩ := ((HR.out.alloc (Nat.le_refl _) (.cells #[.int .i64 5] 3)).2 (by rw [HL'.out]; omega)); injection he with he; subst he; exact hcc j u hu) ⟨wr.heap.size, 0, none⟩ 1 1 [.int .i64 5] rfl rfl (World.news_of_block (cs := #[.int .i64 5]) (t := 3) (fr := (0, 0)) (heap_alloc_new wr _)) (one_int _ _) (by omega) (by unfold maxLen; omega) (by omega) ?_; intro v2 w2 hown2 hg2)
      go_end0
      exact ⟨rfl, (hbl.alloc (Nat.le_trans hb (by omega)) _).grown hg2 (by simp; omega) (fun k hk => by cases hk)⟩
end Go.Proofs.Ytfgjiaakoacomaa
