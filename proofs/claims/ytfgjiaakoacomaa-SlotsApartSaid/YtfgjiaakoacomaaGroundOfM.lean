/- ground.Near and the page's; the argument of the laws of layer 6, opened. -/
import Derived.Test.YtfgjiaakoacomaaGroundNearM
import Derived.Test.YtfgjiaakoacomaaOpen
namespace Go.Proofs.Ytfgjiaakoacomaa
set_option maxRecDepth 20000
open Go.RowKit Go.WideShapes Go.ChangeShapes Go.ChangeAt

/-- A slice over a whole new array of numbers. -/
def GivesArr (base : Nat) (w : World) (l : List Int) (x : Int) (e : Ending) (w' : World) : Prop :=
  ∃ g, e = .returned (.tuple #[.slice (some ⟨g, 0, none⟩) l.length l.length, .int .i64 x]) ∧ base ≤ g ∧ g < w'.heap.size ∧ (∀ j, j < l.length → w'.cell? ⟨g, j, none⟩ = some (.int .i64 (l.getD j 0))) ∧ (∀ j, w'.frozen? ⟨g, j, none⟩ = false) ∧ Below base w w'

theorem isG_bounds {W H : Int} {l : List Int} (h : isG W H l = true) : 1 ≤ W ∧ W ≤ 128 ∧ 1 ≤ H ∧ H ≤ 128 ∧ (l.length : Int) = W * H ∧ ∀ x ∈ l, x ≤ 5 := of_decide_eq_true h

/-- The ground's box behind a call. -/
theorem box3 {w w' : World} {a b c : Value} {t : TypeId} (h : Below (w.alloc (.cells #[a, b, c] t)).heap.size (w.alloc (.cells #[a, b, c] t)) w') :
    w'.cell? ⟨w.heap.size, 0, none⟩ = some a ∧ w'.cell? ⟨w.heap.size, 1, none⟩ = some b ∧ w'.cell? ⟨w.heap.size, 2, none⟩ = some c ∧ w.heap.size < w'.heap.size ∧ Below w.heap.size w w' := by
  have hlt : ∀ k, (⟨w.heap.size, k, none⟩ : Addr).block < (w.alloc (.cells #[a, b, c] t)).heap.size := fun k => by simp
  refine ⟨?_, ?_, ?_, ?_, ((Below.refl _ _).alloc (Nat.le_refl _) _).trans (h.mono (by simp))⟩
  · rw [h.cell (hlt 0), World.cell?_alloc_at _ _ _ _ rfl]; rfl
  · rw [h.cell (hlt 1), World.cell?_alloc_at _ _ _ _ rfl]; rfl
  · rw [h.cell (hlt 2), World.cell?_alloc_at _ _ _ _ rfl]; rfl
  · have := h.size; simp at this; omega
theorem box3_more {w w' w'' : World} {g : Nat} {a b c : Value} (h : w'.cell? ⟨g, 0, none⟩ = some a ∧ w'.cell? ⟨g, 1, none⟩ = some b ∧ w'.cell? ⟨g, 2, none⟩ = some c ∧ g < w'.heap.size ∧ Below w.heap.size w w') (hb : Below w'.heap.size w' w'') :
    w''.cell? ⟨g, 0, none⟩ = some a ∧ w''.cell? ⟨g, 1, none⟩ = some b ∧ w''.cell? ⟨g, 2, none⟩ = some c ∧ g < w''.heap.size ∧ Below w.heap.size w w'' := by
  obtain ⟨h0, h1, h2, h3, h4⟩ := h
  exact ⟨(hb.cell (p := ⟨g, 0, none⟩) h3).trans h0, (hb.cell (p := ⟨g, 1, none⟩) h3).trans h1, (hb.cell (p := ⟨g, 2, none⟩) h3).trans h2, Nat.lt_of_lt_of_le h3 hb.size, h4.trans (hb.mono h4.size)⟩

/-- An array of numbers, wherever it lies, reads as a list. -/
theorem reads_arr {w : World} {g : Nat} {l : List Int} (hg : g < w.heap.size) (h : ∀ j, j < l.length → w.cell? ⟨g, j, none⟩ = some (.int .i64 (l.getD j 0))) : Reads w w.heap.size 1 (some ⟨g, 0, none⟩) l.length (nums .i64 l) := by
  refine ⟨by simp [nums], fun _ => ⟨_, rfl, hg, fun j u hu => ?_⟩⟩
  have hj : j < l.length := by
    have := (List.getElem?_eq_some_iff.1 hu).1
    simpa [nums] using this
  rw [Addr.add_lit, Nat.zero_add, h j hj, ← hu]
  simp [nums, List.getD, hj]

set_option maxHeartbeats 800000 in
set_option maxRecDepth 20000 in
theorem spoil_arr (g n base : Nat) (l : List Int) (w : World) (hl : l.length = n) (hb : base ≤ g) (hg : g < w.heap.size) (hc : ∀ j, j < n → w.cell? ⟨g, j, none⟩ = some (.int .i64 (l.getD j 0))) (hf : ∀ j, w.frozen? ⟨g, j, none⟩ = false) (h1 : 1 ≤ n) (hn : n ≤ 2097152) :
    Calls Try.prog 17 #[.slice (some ⟨g, 0, none⟩) n n] w fun e w' => e = .returned (.tuple #[]) ∧ Below base w w' := by
  obtain ⟨i0, hi0, hz0, hz1, hz2⟩ := info_parts info_int
  have H0 : Hid (∀ j, j < n → ∃ y, w.cell? ⟨g, j, none⟩ = some (.int .i64 y)) := fun j hj => ⟨_, hc j hj⟩
  have F0 := Lib.hid hf
  have HL := Lib.hid hl
  clear hc hf hl
  go_enter Try.func17, Try.ntmps17
  go_wp2
  go_loopw [2] (fun i wr => ∃ (k : Nat), k ≤ n ∧ i = .int .i64 k ∧ Hid (∀ j, j < n → ∃ y, wr.cell? ⟨g, j, none⟩ = some (.int .i64 y)) ∧ Hid (∀ j, wr.frozen? ⟨g, j, none⟩ = false) ∧ g < wr.heap.size ∧ Below base w wr) (fun i _ => n - (intOf i).toNat)
  case atStart => exact ⟨0, Nat.zero_le _, rfl, H0, F0, hg, Below.refl _ _⟩
  case round =>
    obtain ⟨k, hk, rfl, HC, HF, hgr, hbl⟩ := hrel
    by_cases hlt : k < n
    · obtain ⟨y, hc⟩ := HC.out k hlt
      have hf := HF.out k
      go_wp2
      go_roundw
      case rel =>
        refine ⟨k + 1, by omega, by go_num, ?_, ?_, by simpa using hgr, hbl.setCell hb _⟩
        · intro j hj
          by_cases hjk : j = k
          · subst hjk
            exact ⟨_, World.cell?_setCell_same _ _ _ hc⟩
          · obtain ⟨y', hy'⟩ := HC.out j hj
            exact ⟨y', by rw [World.cell?_setCell_other _ _ _ _ (by simp <;> omega)]; exact hy'⟩
        · intro j
          rw [World.frozen?_setCell]; exact HF.out j
      case measure => simp [intOf]; omega
    · obtain rfl : k = n := by omega
      have hex : ∃ l' : List Int, l'.length = k ∧ ∀ j, j < k → wr.cell? ⟨g, j, none⟩ = some (.int .i64 (l'.getD j 0)) := by
        have key : ∀ m, m ≤ k → ∃ l' : List Int, l'.length = m ∧ ∀ j, j < m → wr.cell? ⟨g, j, none⟩ = some (.int .i64 (l'.getD j 0)) := by
          intro m
          induction m with
          | zero => exact fun _ => ⟨[], rfl, fun j hj => by omega⟩
          | succ m ih =>
            intro hm
            obtain ⟨l', h1, h2⟩ := ih (by omega)
            obtain ⟨y, hy⟩ := HC.out m (by omega)
            refine ⟨l' ++ [y], by simp [h1], fun j hj => ?_⟩
            by_cases hjm : j = m
            · subst hjm; rw [hy]; simp [List.getD, ← h1]
            · rw [h2 j (by omega)]; simp [List.getD, List.getElem?_append, h1, show j < m by omega]
        exact key k (Nat.le_refl _)
      obtain ⟨l', hl', hc'⟩ := hex
      have hr' := reads_arr hgr (fun j hj => hc' j (by omega))
      have HR := Lib.hid hr'
      have HL' := Lib.hid hl'
      clear hr' hl' hc' HC HF
      go_wp2_with (at_builtin; refine wpList_append_grows _ rfl _ _ _ rfl 3 i0 _ 1 8 Try.underlying30 hi0 hz0 hz1 hz2 rfl (by omega) _ _ _ (nums .i64 l') rfl (fun h => by cases h) (by simp [nums, HL'.out]) (fun b hb j u hu => by injection hb with hb; subst hb; obtain ⟨ad, he, _, hcc⟩ := ((HR.out.alloc (Nat.le_refl _) (.cells #[.int .i64 5] 3)).2 (by rw [HL'.out]; omega)); injection he with he; subst he; exact hcc j u hu) ⟨wr.heap.size, 0, none⟩ 1 1 [.int .i64 5] rfl rfl (World.news_of_block (cs := #[.int .i64 5]) (t := 3) (fr := (0, 0)) (heap_alloc_new wr _)) (one_int _ _) (by omega) (by unfold maxLen; omega) (by omega) ?_; intro v2 w2 hown2 hg2)
      go_end0
      exact ⟨rfl, (hbl.alloc (Nat.le_trans hb (by omega)) _).grown hg2 (by simp; omega) (fun k hk => by cases hk)⟩
end Go.Proofs.Ytfgjiaakoacomaa
namespace Go.Proofs.Ytfgjiaakoacomaa
set_option maxRecDepth 20000
open Go.RowKit

theorem near_take {W H t : Int} {k : Nat} (hk : k < 8) : nums .i64 ((nearL W H t).take k) ++ [.int .i64 (nearI W H t k)] = nums .i64 ((nearL W H t).take (k + 1)) := by
  rcases (show k = 0 ∨ k = 1 ∨ k = 2 ∨ k = 3 ∨ k = 4 ∨ k = 5 ∨ k = 6 ∨ k = 7 by omega) with rfl | rfl | rfl | rfl | rfl | rfl | rfl | rfl <;> rfl

/-- Numbers of the call's own. -/
def GivesNums (base : Nat) (w : World) (l : List Int) (e : Ending) (w' : World) : Prop :=
  ∃ A c, e = .returned (.slice A l.length c) ∧ w'.ownsRow base 3 1 (.slice A l.length c) l.length (nums .i64 l) ∧ Below base w w'

set_option maxHeartbeats 1600000 in
set_option maxRecDepth 20000 in
theorem ref_near (W H t : Int) (A : Option Addr) (n c : Nat) (w : World) (h1 : 1 ≤ W) (h2 : W ≤ 128) (h3 : 1 ≤ H) (h4 : H ≤ 128) (ht0 : 0 ≤ t) (ht1 : t < W * H) :
    Calls Try.prog 24 #[.agg #[.int .i64 W, .int .i64 H, .slice A n c], .int .i64 t] w (GivesNums w.heap.size w (nearL W H t)) := by
  obtain ⟨i0, hi0, hz0, hz1, hz2⟩ := info_parts info_int
  have hx0 : 0 ≤ t % W := Int.emod_nonneg _ (by omega)
  have hx1 : t % W < W := Int.emod_lt_of_pos _ (by omega)
  have hy0 : 0 ≤ t / W := Int.ediv_nonneg ht0 (by omega)
  have hy1 : t / W < H := Int.ediv_lt_of_lt_mul (by omega) (by rw [Int.mul_comm]; exact ht1)
  have p2 : t < 16384 := by have := (prod_range h1 h2 h3 h4).2; omega
  clear ht1
  go_enter Try.func24, Try.ntmps24
  go_wp2_with fail
  generalize hW : ((w.alloc (.cells #[.int .i64 W, .int .i64 H, .slice A n c] 24)).alloc _).alloc _ = W1
  have hb0 : Below w.heap.size w W1 := by rw [← hW]; exact (((Below.refl _ _).alloc (Nat.le_refl _) _).alloc (by simp) _).alloc (by simp; omega) _
  have hz : W1.heap.size = w.heap.size + 3 := by rw [← hW]; simp
  have c0 : W1.cell? ⟨w.heap.size, 0, none⟩ = some (.int .i64 W) := by rw [← hW, World.cell?_alloc_lt _ _ _ (by simp; omega), World.cell?_alloc_lt _ _ _ (by simp), World.cell?_alloc_at _ _ _ _ rfl]; rfl
  have c1 : W1.cell? ⟨w.heap.size, 1, none⟩ = some (.int .i64 H) := by rw [← hW, World.cell?_alloc_lt _ _ _ (by simp; omega), World.cell?_alloc_lt _ _ _ (by simp), World.cell?_alloc_at _ _ _ _ rfl]; rfl
  have HX : Hid (∀ j, j < 8 → W1.cell? ⟨w.heap.size + 1, j, none⟩ = some (.int .i64 (wayX j))) := by
    intro j hj
    rw [← hW, World.cell?_alloc_lt _ _ _ (by simp), World.cell?_alloc_at _ _ _ _ (by simp)]
    rcases (show j = 0 ∨ j = 1 ∨ j = 2 ∨ j = 3 ∨ j = 4 ∨ j = 5 ∨ j = 6 ∨ j = 7 by omega) with rfl | rfl | rfl | rfl | rfl | rfl | rfl | rfl <;> rfl
  have HY : Hid (∀ j, j < 8 → W1.cell? ⟨w.heap.size + 1 + 1, j, none⟩ = some (.int .i64 (wayY j))) := by
    intro j hj
    rw [← hW, World.cell?_alloc_at _ _ _ _ (by simp)]
    rcases (show j = 0 ∨ j = 1 ∨ j = 2 ∨ j = 3 ∨ j = 4 ∨ j = 5 ∨ j = 6 ∨ j = 7 by omega) with rfl | rfl | rfl | rfl | rfl | rfl | rfl | rfl <;> rfl
  have z2 : w.heap.size < W1.heap.size := by omega
  have z3 : w.heap.size + 1 < W1.heap.size := by omega
  have z4 : w.heap.size + 1 + 1 < W1.heap.size := by omega
  clear hW hz
  generalize w.heap.size + 1 + 1 = g6 at *
  generalize w.heap.size + 1 = g5 at *
  go_loopw [7, 8] (fun v i wr => ∃ (k : Nat) (A' : Option Addr) (c' : Nat), k ≤ 8 ∧ i = .int .i64 k ∧ v = .slice A' k c' ∧ wr.ownsRow W1.heap.size 3 1 (.slice A' k c') k (nums .i64 ((nearL W H t).take k)) ∧ Below W1.heap.size W1 wr) (fun _ i _ => 8 - (intOf i).toNat)
  case atStart => exact ⟨0, none, 0, by omega, rfl, rfl, World.ownsRow_nil _ _ _ _, Below.refl _ _⟩
  case round =>
    obtain ⟨k, A', c', hk, rfl, rfl, hown, hbl⟩ := hrel
    by_cases hlt : k < 8
    · have s0 := (hbl.cell (p := ⟨w.heap.size, 0, none⟩) z2).trans c0
      have s1 := (hbl.cell (p := ⟨w.heap.size, 1, none⟩) z2).trans c1
      have s2 := (hbl.cell (p := ⟨g5, k, none⟩) z3).trans (HX.out k hlt)
      have s3 := (hbl.cell (p := ⟨g6, k, none⟩) z4).trans (HY.out k hlt)
      obtain ⟨u0, u1, v0, v1⟩ := way_range k
      have HN : Hid (nearI W H t k = if onB W H (t % W + wayX k) (t / W + wayY k) then t % W + wayX k + W * (t / W + wayY k) else -1) := rfl
      have HT := Lib.hid (near_take (W := W) (H := H) (t := t) hlt)
      generalize wayX k = dx at *
      generalize wayY k = dy at *
      have hq0 : -128 ≤ W * (t / W + dy) := by
        have := Int.mul_le_mul_of_nonneg_left (show (-1 : Int) ≤ t / W + dy by omega) (show 0 ≤ W by omega)
        omega
      have hq1 : W * (t / W + dy) ≤ 16384 := by
        have h5 := Int.mul_le_mul_of_nonneg_left (show t / W + dy ≤ 128 by omega) (show 0 ≤ W by omega)
        omega
      have ki : (k : Int) < 8 := by omega
      have hcs : (0 ≤ t % W + dx ∧ t % W + dx < W ∧ 0 ≤ t / W + dy ∧ t / W + dy < H) ∨ t % W + dx < 0 ∨ (0 ≤ t % W + dx ∧ W ≤ t % W + dx) ∨ (0 ≤ t % W + dx ∧ t % W + dx < W ∧ t / W + dy < 0) ∨ (0 ≤ t % W + dx ∧ t % W + dx < W ∧ 0 ≤ t / W + dy ∧ H ≤ t / W + dy) := by omega
      have hwx : IntKind.i64.wrap (t % W + dx) = t % W + dx := IntWalk.i64_in _ (by omega)
      have hwy : IntKind.i64.wrap (t / W + dy) = t / W + dy := IntWalk.i64_in _ (by omega)
      rcases hcs with hc | hc
      · have hon : onB W H (t % W + dx) (t / W + dy) = true := decide_eq_true hc
        rw [if_pos hon] at HN
        clear hon
        obtain ⟨k1, k2, k3, k4⟩ := hc
        go_wp2_with fail
        go_quiet (fail)
        clear hwx hwy
        go_wp2_with (at_builtin; refine wpList_push (wr.drewN nq) _ rfl _ _ _ rfl W1.heap.size 3 i0 _ 1 8 Try.underlying30 hi0 hz0 hz1 hz2 rfl (by omega) _ _ _ rfl hown [.int .i64 (t % W + dx + W * (t / W + dy))] rfl rfl rfl (one_int _ _) (by unfold maxLen; omega) (by omega) hbl.size ?_; intro A2 c2 w2 hown2 hb2)
        go_roundw
        case rel =>
          rw [← HN.out, HT.out] at hown2
          exact ⟨k + 1, A2, c2, by omega, by go_num, rfl, hown2, (below_drewN hbl _).trans hb2⟩
        case measure => simp [intOf]; omega
      · have hon : ¬ onB W H (t % W + dx) (t / W + dy) = true := by
          intro h
          have := of_decide_eq_true h
          omega
        rw [if_neg hon] at HN
        clear hon
        rcases hc with hc | ⟨k1, hc⟩ | ⟨k1, k2, hc⟩ | ⟨k1, k2, k3, hc⟩
        all_goals
          go_wp2_with fail
          go_quiet (fail)
          clear hwx hwy
          go_wp2_with (at_builtin; refine wpList_push (wr.drewN nq) _ rfl _ _ _ rfl W1.heap.size 3 i0 _ 1 8 Try.underlying30 hi0 hz0 hz1 hz2 rfl (by omega) _ _ _ rfl hown [.int .i64 (-1)] rfl rfl rfl (one_int _ _) (by unfold maxLen; omega) (by omega) hbl.size ?_; intro A2 c2 w2 hown2 hb2)
          go_roundw
          case rel =>
            rw [← HN.out, HT.out] at hown2
            exact ⟨k + 1, A2, c2, by omega, by go_num, rfl, hown2, (below_drewN hbl _).trans hb2⟩
          case measure => simp [intOf]; omega
    · obtain rfl : k = 8 := by omega
      have HN : Hid ((nearL W H t).take 8 = nearL W H t) := rfl
      rw [HN.out] at hown
      go_wp2
      go_ret
      exact ⟨A', c', rfl, own_mono hown hb0.size, hb0.trans (hbl.mono hb0.size)⟩
end Go.Proofs.Ytfgjiaakoacomaa
