/- With a building less nowhere is less room, and somewhere more. Plain mathematics. -/
import Derived.Test.YtfgjiaakoacomaaClearWake
namespace Go.Proofs.Ytfgjiaakoacomaa
set_option maxRecDepth 20000
open Go.RowKit

theorem bd_tail (l : List Bd) (i : Nat) : bdAt (l.drop 1) i = bdAt l (i + 1) := by simp [bdAt, List.getD, Nat.add_comm]
theorem tail_ok {n : Nat} {W H : Int} {ts : List Int} {l : List Bd} {k : Int} (h : allP n W H ts l k) : allP n W H ts (l.drop 1) k := by
  obtain ⟨h1, ⟨h2, h3, h4⟩, h5⟩ := h
  refine ⟨h1, ⟨by simp; omega, fun i hi h0 => ?_, fun i hi => ?_⟩, h5⟩
  · rw [bd_tail, bd_tail, show i - 1 + 1 = i by omega]
    have := h3 (i + 1) (by simp at hi; omega) (by omega)
    simpa using this
  · obtain ⟨a, b, c, d⟩ := h4 (i + 1) (by simp at hi; omega)
    unfold okAt apartP
    rw [bd_tail]
    refine ⟨a, b, c, fun j hj => ?_⟩
    rw [bd_tail]
    exact d (j + 1) (by omega)
theorem cov_tail {W : Int} {l : List Bd} {m : Nat} {t : Int} : covK W l (m + 1) t = (decide (covP W (bdAt l 0) t) || covK W (l.drop 1) m t) := by
  unfold covK
  rw [Bool.eq_iff_iff]
  simp only [decide_eq_true_eq, Bool.or_eq_true]
  constructor
  · rintro ⟨i, h1, h2⟩
    cases i with
    | zero => exact .inl h2
    | succ i => exact .inr ⟨i, by omega, by rw [bd_tail]; exact h2⟩
  · rintro (h | ⟨i, h1, h2⟩)
    · exact ⟨0, by omega, h⟩
    · rw [bd_tail] at h2
      exact ⟨i + 1, by omega, h2⟩
theorem price_low {k t : Int} (hk : classP k) (h0 : 0 ≤ t) (h1 : t ≤ 1) : 0 < price k t := by
  obtain ⟨a, b⟩ := hk
  rcases (by omega : k = 0 ∨ k = 1 ∨ k = 2) with rfl | rfl | rfl <;> rcases (by omega : t = 0 ∨ t = 1) with rfl | rfl <;> decide
theorem roomL_at {W H : Int} {n : Nat} {f : Nat → Bool} {l : List Int} (hW : 1 ≤ W) (hn : (n : Int) = W * H) {t : Nat} (ht : t < n) (_h : RoomL W H n f l) : l.getD t 0 = atK W H l (tX W t) (tY W t) := by
  obtain ⟨ho, e⟩ := tile_xy hW hn ht
  rw [show atK W H l (tX W t) (tY W t) = l.getD (tX W t + W * tY W t).toNat 0 from if_pos ho, e]
theorem built_less {n m : Nat} {W H k : Int} {ts : List Int} {l : List Bd} {ln lm : List Int} (h : allP n W H ts l k) (hlen : l.length = m + 1) (hn : (n : Int) = W * H) (hb : IsBytes ts) (h1 : RoomL W H n (openT W ts l (m + 1) k) ln) (h2 : RoomL W H n (openT W ts (l.drop 1) m k) lm) :
    (∀ t, t < n → ln.getD t 0 ≤ lm.getD t 0) ∧ ∃ t, t < n ∧ ln.getD t 0 < lm.getD t 0 := by
  obtain ⟨hg, ⟨_, _, hall⟩, hk⟩ := h
  obtain ⟨hW0, hW1, hH0, hH1, htl, hts⟩ := isG_bounds hg
  have hmono : ∀ x y, onG W H x y → opP W (openT W ts l (m + 1) k) x y → opP W (openT W ts (l.drop 1) m k) x y := fun x y _ ho => by
    unfold opP openT at ho ⊢
    rw [cov_tail, Bool.and_eq_true, Bool.not_eq_true', Bool.or_eq_false_iff] at ho
    rw [Bool.and_eq_true, Bool.not_eq_true']
    exact ⟨ho.1.2, ho.2⟩
  refine ⟨fun t ht => ?_, ?_⟩
  · rw [roomL_at hW0 hn ht h1, roomL_at hW0 hn ht h2]
    exact h1.2.mono h2.2 hmono _ _
  · obtain ⟨hf, ho, hfm, _⟩ := hall 0 (by omega)
    have bn := hf
    unfold formP at bn
    have bo := ho
    unfold onP at bo
    have hmem := (mem_tiles hf ho (z := (bdAt l 0).x + W * (bdAt l 0).y)).1 (by
      unfold tilesL
      rw [mem_tilesR]
      exact ⟨0, 0, by omega, by omega, by simp⟩)
    obtain ⟨z0, z1, zc⟩ := hmem
    obtain ⟨t, ht⟩ := Int.eq_ofNat_of_zero_le z0
    rw [ht] at zc z1
    have htn : t < n := by omega
    refine ⟨t, htn, ?_⟩
    obtain ⟨hon, e⟩ := tile_xy hW0 hn htn
    rw [roomL_at hW0 hn htn h1, roomL_at hW0 hn htn h2]
    have hs : atK W H ln (tX W t) (tY W t) = 0 := h1.2.shut _ _ hon fun hop => by
      unfold opP openT at hop
      rw [e, cov_tail, decide_eq_true zc] at hop
      simp at hop
    have hp : 1 ≤ atK W H lm (tX W t) (tY W t) := h2.2.pos _ _ hon (by
      unfold opP openT
      rw [e, Bool.and_eq_true, Bool.not_eq_true']
      refine ⟨?_, ?_⟩
      · unfold covK
        rw [decide_eq_false_iff_not]
        rintro ⟨i, hi, hc⟩
        rw [bd_tail] at hc
        obtain ⟨hf2, ho2, _, hap⟩ := hall (i + 1) (by omega)
        exact hap 0 (by omega) ((meet_iff hf2 ho2 hf ho).2 ⟨(t : Int), (mem_tiles hf2 ho2).2 ⟨by omega, z1, hc⟩, zc⟩)
      · rw [decide_eq_true_eq]
        have hx : 0 ≤ ts.getD t 0 := by
          by_cases htt : t < ts.length
          · have : ts.getD t 0 ∈ ts := by simp only [List.getD, List.getElem?_eq_getElem htt, Option.getD_some]; exact List.getElem_mem htt
            exact (hb _ this).1
          · simp [List.getD, htt]
        exact price_low hk hx (hfm t htn zc))
    omega
end Go.Proofs.Ytfgjiaakoacomaa
