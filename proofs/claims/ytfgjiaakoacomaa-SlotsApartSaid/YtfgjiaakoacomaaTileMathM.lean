/- Tiles and their places. Plain mathematics. -/
import Derived.Test.YtfgjiaakoacomaaBuildMath
import Derived.Test.YtfgjiaakoacomaaClearMay
namespace Go.Proofs.Ytfgjiaakoacomaa
set_option maxRecDepth 20000

/-- Is there such a place? -/
def onG (W H x y : Int) : Prop := 0 ≤ x ∧ x < W ∧ 0 ≤ y ∧ y < H
instance (W H x y : Int) : Decidable (onG W H x y) := by unfold onG; exact inferInstance
def tX (W : Int) (t : Nat) : Int := (t : Int) % W
def tY (W : Int) (t : Nat) : Int := (t : Int) / W
theorem tile_xy {W H : Int} {n t : Nat} (hW : 1 ≤ W) (hn : (n : Int) = W * H) (ht : t < n) : onG W H (tX W t) (tY W t) ∧ (tX W t + W * tY W t).toNat = t := by
  have h0 : 0 ≤ (t : Int) % W := Int.emod_nonneg _ (by omega)
  have h1 : (t : Int) % W < W := Int.emod_lt_of_pos _ (by omega)
  have h2 : 0 ≤ (t : Int) / W := Int.ediv_nonneg (by omega) (by omega)
  have h3 : (t : Int) / W < H := Int.ediv_lt_of_lt_mul (by omega) (by rw [Int.mul_comm]; omega)
  refine ⟨⟨h0, h1, h2, h3⟩, ?_⟩
  have := Int.emod_add_mul_ediv (t : Int) W
  unfold tX tY
  omega
theorem xy_tile {W H : Int} {n : Nat} (hn : (n : Int) = W * H) {x y : Int} (ho : onG W H x y) : (x + W * y).toNat < n ∧ tX W (x + W * y).toNat = x ∧ tY W (x + W * y).toNat = y ∧ ((x + W * y).toNat : Int) = x + W * y := by
  obtain ⟨h0, h1, h2, h3⟩ := ho
  have m0 : 0 ≤ W * y := Int.mul_nonneg (by omega) h2
  have m1 : W * (y + 1) ≤ W * H := Int.mul_le_mul_of_nonneg_left (by omega) (by omega)
  rw [Int.mul_add, Int.mul_one] at m1
  have e : ((x + W * y).toNat : Int) = x + W * y := by omega
  obtain ⟨e1, e2⟩ := place_div (W := W) (X := x) (Y := y) h0 h1
  unfold tX tY
  rw [e, e1, e2]
  exact ⟨by omega, rfl, rfl, rfl⟩
end Go.Proofs.Ytfgjiaakoacomaa
namespace Go.Proofs.Ytfgjiaakoacomaa
set_option maxRecDepth 20000


/-- What two passes leave: f1 behind the first, f2 behind both. -/
structure Cham (W H : Int) (f0 f1 f2 : Int → Int → Int) : Prop where
  out1 : ∀ x y, ¬ onG W H x y → f1 x y = 0
  out2 : ∀ x y, ¬ onG W H x y → f2 x y = 0
  nn1 : ∀ x y, 0 ≤ f1 x y
  nn2 : ∀ x y, 0 ≤ f2 x y
  up : ∀ x y, onG W H x y → f1 x y = min (min (min (min (f0 x y) (f1 (x - 1) y + 1)) (f1 (x - 1) (y - 1) + 1)) (f1 x (y - 1) + 1)) (f1 (x + 1) (y - 1) + 1)
  dn : ∀ x y, onG W H x y → f2 x y = min (min (min (min (f1 x y) (f2 (x + 1) y + 1)) (f2 (x + 1) (y + 1) + 1)) (f2 x (y + 1) + 1)) (f2 (x - 1) (y + 1) + 1)
section
variable {W H : Int} {f0 f1 f2 : Int → Int → Int}
theorem min5 (a b c d e : Int) : min (min (min (min a b) c) d) e ≤ a ∧ min (min (min (min a b) c) d) e ≤ b ∧ min (min (min (min a b) c) d) e ≤ c ∧ min (min (min (min a b) c) d) e ≤ d ∧ min (min (min (min a b) c) d) e ≤ e ∧
    (min (min (min (min a b) c) d) e = a ∨ min (min (min (min a b) c) d) e = b ∨ min (min (min (min a b) c) d) e = c ∨ min (min (min (min a b) c) d) e = d ∨ min (min (min (min a b) c) d) e = e) := by omega
theorem Cham.up_le (h : Cham W H f0 f1 f2) {x y : Int} (ho : onG W H x y) : f1 x y ≤ f0 x y ∧ f1 x y ≤ f1 (x - 1) y + 1 ∧ f1 x y ≤ f1 (x - 1) (y - 1) + 1 ∧ f1 x y ≤ f1 x (y - 1) + 1 ∧ f1 x y ≤ f1 (x + 1) (y - 1) + 1 ∧
    (f1 x y = f0 x y ∨ f1 x y = f1 (x - 1) y + 1 ∨ f1 x y = f1 (x - 1) (y - 1) + 1 ∨ f1 x y = f1 x (y - 1) + 1 ∨ f1 x y = f1 (x + 1) (y - 1) + 1) := by
  rw [h.up x y ho]; exact min5 _ _ _ _ _
theorem Cham.dn_le (h : Cham W H f0 f1 f2) {x y : Int} (ho : onG W H x y) : f2 x y ≤ f1 x y ∧ f2 x y ≤ f2 (x + 1) y + 1 ∧ f2 x y ≤ f2 (x + 1) (y + 1) + 1 ∧ f2 x y ≤ f2 x (y + 1) + 1 ∧ f2 x y ≤ f2 (x - 1) (y + 1) + 1 ∧
    (f2 x y = f1 x y ∨ f2 x y = f2 (x + 1) y + 1 ∨ f2 x y = f2 (x + 1) (y + 1) + 1 ∨ f2 x y = f2 x (y + 1) + 1 ∨ f2 x y = f2 (x - 1) (y + 1) + 1) := by
  rw [h.dn x y ho]; exact min5 _ _ _ _ _

/-- A later neighbour is not farther than one step more. -/
theorem Cham.bk (h : Cham W H f0 f1 f2) : ∀ (n m : Nat) (x y : Int), onG W H x y → H - y ≤ n → W - x ≤ m →
    (onG W H (x + 1) y → f2 (x + 1) y ≤ f2 x y + 1) ∧ (onG W H (x + 1) (y + 1) → f2 (x + 1) (y + 1) ≤ f2 x y + 1) ∧ (onG W H x (y + 1) → f2 x (y + 1) ≤ f2 x y + 1) ∧ (onG W H (x - 1) (y + 1) → f2 (x - 1) (y + 1) ≤ f2 x y + 1) := by
  intro n
  induction n with
  | zero => intro m x y ho h1 _; unfold onG at ho; omega
  | succ n ihn =>
    intro m
    induction m with
    | zero => intro x y ho _ h1; unfold onG at ho; omega
    | succ m ihm =>
      intro x y ho hn hm
      have hrow : ∀ x', onG W H x' (y + 1) → _ := fun x' ho' => ihn (W - x').toNat x' (y + 1) ho' (by omega) (by unfold onG at ho'; omega)
      have hx : onG W H (x + 1) y → _ := fun ho' => ihm (x + 1) y ho' hn (by omega)
      have a0 := h.dn_le ho
      have a1 := h.up_le ho
      -- E
      have eE : ¬ x + 1 < W → f2 (x + 1) y = 0 ∧ f2 (x + 1) (y + 1) = 0 ∧ f1 (x + 1) (y - 1) = 0 := fun hc => ⟨h.out2 _ _ (by unfold onG; omega), h.out2 _ _ (by unfold onG; omega), h.out1 _ _ (by unfold onG; omega)⟩
      have eW : ¬ 0 ≤ x - 1 → f2 (x - 1) (y + 1) = 0 ∧ f1 (x - 1) y = 0 := fun hc => ⟨h.out2 _ _ (by unfold onG; omega), h.out1 _ _ (by unfold onG; omega)⟩
      have eS : ¬ y + 1 < H → f2 (x + 1) (y + 1) = 0 ∧ f2 x (y + 1) = 0 ∧ f2 (x - 1) (y + 1) = 0 := fun hc => ⟨h.out2 _ _ (by unfold onG; omega), h.out2 _ _ (by unfold onG; omega), h.out2 _ _ (by unfold onG; omega)⟩
      have gE : x + 1 < W → f2 (x + 1) y ≤ f1 (x + 1) y ∧ f2 (x + 1) y ≤ f2 (x + 1) (y + 1) + 1 ∧ f2 (x + 1) y ≤ f2 x (y + 1) + 1 ∧ f1 (x + 1) y ≤ f1 x y + 1 ∧
          (y + 1 < H → f2 (x + 1) (y + 1) ≤ f2 (x + 1) y + 1 ∧ f2 x (y + 1) ≤ f2 (x + 1) y + 1) := fun hc => by
        have hoE : onG W H (x + 1) y := by unfold onG at ho ⊢; omega
        have b0 := h.dn_le hoE
        have b1 := h.up_le hoE
        have b2 := hx hoE
        simp only [Int.add_sub_cancel] at b0 b1 b2
        exact ⟨b0.1, b0.2.2.2.1, b0.2.2.2.2.1, b1.2.1, fun hs => ⟨b2.2.2.1 (by unfold onG at hoE ⊢; omega), b2.2.2.2 (by unfold onG at ho ⊢; omega)⟩⟩
      have gS : y + 1 < H → f2 x (y + 1) ≤ f1 x (y + 1) ∧ f2 x (y + 1) ≤ f2 (x + 1) (y + 1) + 1 ∧ f1 x (y + 1) ≤ f1 x y + 1 ∧ (x + 1 < W → f2 (x + 1) (y + 1) ≤ f2 x (y + 1) + 1) := fun hs => by
        have hoS : onG W H x (y + 1) := by unfold onG at ho ⊢; omega
        have b0 := h.dn_le hoS
        have b1 := h.up_le hoS
        have b2 := hrow x hoS
        simp only [Int.add_sub_cancel] at b0 b1 b2
        exact ⟨b0.1, b0.2.1, b1.2.2.2.1, fun hc => b2.1 (by unfold onG at hoS ⊢; omega)⟩
      have gSE : y + 1 < H → x + 1 < W → f2 (x + 1) (y + 1) ≤ f1 (x + 1) (y + 1) ∧ f1 (x + 1) (y + 1) ≤ f1 x y + 1 := fun hs hc => by
        have hoS : onG W H (x + 1) (y + 1) := by unfold onG at ho ⊢; omega
        have b0 := h.dn_le hoS
        have b1 := h.up_le hoS
        simp only [Int.add_sub_cancel] at b0 b1
        exact ⟨b0.1, b1.2.2.1⟩
      have gSW : y + 1 < H → 0 ≤ x - 1 → f2 (x - 1) (y + 1) ≤ f1 (x - 1) (y + 1) ∧ f1 (x - 1) (y + 1) ≤ f1 x y + 1 ∧ f2 (x - 1) (y + 1) ≤ f2 x (y + 1) + 1 ∧ f2 x (y + 1) ≤ f2 (x - 1) (y + 1) + 1 := fun hs hc => by
        have hoS : onG W H (x - 1) (y + 1) := by unfold onG at ho ⊢; omega
        have b0 := h.dn_le hoS
        have b1 := h.up_le hoS
        have b2 := hrow (x - 1) hoS
        simp only [Int.add_sub_cancel, Int.sub_add_cancel] at b0 b1 b2
        exact ⟨b0.1, b1.2.2.2.2.1, b0.2.1, b2.1 (by unfold onG at ho ⊢; omega)⟩
      have n2 := h.nn2 x y
      clear hrow hx ihn ihm
      obtain ⟨a01, a02, a03, a04, a05, a06⟩ := a0
      obtain ⟨_, a11, a12, a13, a14, _⟩ := a1
      unfold onG at *
      by_cases e : x + 1 < W
      · have gE := gE e
        obtain ⟨gE1, gE2, gE3, gE4, gE5⟩ := gE
        by_cases s : y + 1 < H
        · obtain ⟨gE6, gE7⟩ := gE5 s
          obtain ⟨gS1, gS2, gS3, gS4⟩ := gS s
          have gS5 := gS4 e
          obtain ⟨gSE1, gSE2⟩ := gSE s e
          by_cases w : 0 ≤ x - 1
          · obtain ⟨gSW1, gSW2, gSW3, gSW4⟩ := gSW s w
            clear eE eW eS gE5 gS gS4 gSE gSW
            exact ⟨fun _ => by omega, fun _ => by omega, fun _ => by omega, fun _ => by omega⟩
          · obtain ⟨eW1, eW2⟩ := eW w
            clear eE eW eS gE5 gS gS4 gSE gSW
            exact ⟨fun _ => by omega, fun _ => by omega, fun _ => by omega, fun hc => by omega⟩
        · obtain ⟨eS1, eS2, eS3⟩ := eS s
          clear eE eW eS gE5 gS gSE gSW
          exact ⟨fun _ => by omega, fun hc => by omega, fun hc => by omega, fun hc => by omega⟩
      · obtain ⟨eE1, eE2, eE3⟩ := eE e
        by_cases s : y + 1 < H
        · obtain ⟨gS1, gS2, gS3, gS4⟩ := gS s
          by_cases w : 0 ≤ x - 1
          · obtain ⟨gSW1, gSW2, gSW3, gSW4⟩ := gSW s w
            clear eE eW eS gE gS gS4 gSE gSW
            exact ⟨fun hc => by omega, fun hc => by omega, fun _ => by omega, fun _ => by omega⟩
          · obtain ⟨eW1, eW2⟩ := eW w
            clear eE eW eS gE gS gS4 gSE gSW
            exact ⟨fun hc => by omega, fun hc => by omega, fun _ => by omega, fun hc => by omega⟩
        · clear eE eW eS gE gS gSE gSW
          exact ⟨fun hc => by omega, fun hc => by omega, fun hc => by omega, fun hc => by omega⟩

/-- Room: shut tiles have none; each other one is one step farther than its nearest neighbour. -/
structure Room (W H : Int) (op : Int → Int → Prop) (f : Int → Int → Int) : Prop where
  out : ∀ x y, ¬ onG W H x y → f x y = 0
  nn : ∀ x y, 0 ≤ f x y
  shut : ∀ x y, onG W H x y → ¬ op x y → f x y = 0
  pos : ∀ x y, onG W H x y → op x y → 1 ≤ f x y
  lip : ∀ x y dx dy, onG W H x y → -1 ≤ dx → dx ≤ 1 → -1 ≤ dy → dy ≤ 1 → f x y ≤ f (x + dx) (y + dy) + 1
  got : ∀ x y, onG W H x y → op x y → ∃ dx dy, -1 ≤ dx ∧ dx ≤ 1 ∧ -1 ≤ dy ∧ dy ≤ 1 ∧ f x y = f (x + dx) (y + dy) + 1

theorem Cham.all (h : Cham W H f0 f1 f2) {x y dx dy : Int} (ho : onG W H x y) (h1 : -1 ≤ dx) (h2 : dx ≤ 1) (h3 : -1 ≤ dy) (h4 : dy ≤ 1) : f2 x y ≤ f2 (x + dx) (y + dy) + 1 := by
  have a0 := h.dn_le ho
  have a1 := h.up_le ho
  have n2 := h.nn2 x y
  have back : onG W H (x + dx) (y + dy) → _ := fun hb => h.bk (H - (y + dy)).toNat (W - (x + dx)).toNat (x + dx) (y + dy) hb (by unfold onG at hb; omega) (by unfold onG at hb; omega)
  have o1 : ¬ onG W H (x + dx) (y + dy) → f1 (x + dx) (y + dy) = 0 := fun hb => h.out1 _ _ hb
  have hx1 : x + -1 + 1 = x := by omega
  have hy1 : y + -1 + 1 = y := by omega
  have hx2 : x + 1 - 1 = x := by omega
  rcases (show dx = -1 ∨ dx = 0 ∨ dx = 1 by omega) with rfl | rfl | rfl <;> rcases (show dy = -1 ∨ dy = 0 ∨ dy = 1 by omega) with rfl | rfl | rfl
  · by_cases hb : onG W H (x + -1) (y + -1)
    · have := (back hb).2.1 (by simpa [hx1, hy1, hx2] using ho)
      simpa [hx1, hy1, hx2] using this
    · have := o1 hb
      rw [show x + -1 = x - 1 by omega, show y + -1 = y - 1 by omega] at this ⊢
      have := h.nn2 (x - 1) (y - 1); omega
  · by_cases hb : onG W H (x + -1) (y + 0)
    · have := (back hb).1 (by simpa [hx1, hy1, hx2] using ho)
      simpa [hx1, hy1, hx2] using this
    · have := o1 hb
      rw [show x + -1 = x - 1 by omega, show y + 0 = y by omega] at this ⊢
      have := h.nn2 (x - 1) y; omega
  · rw [show x + -1 = x - 1 by omega]; omega
  · by_cases hb : onG W H (x + 0) (y + -1)
    · have := (back hb).2.2.1 (by simpa [hx1, hy1, hx2] using ho)
      simpa [hx1, hy1, hx2] using this
    · have := o1 hb
      rw [show y + -1 = y - 1 by omega, show x + 0 = x by omega] at this ⊢
      have := h.nn2 x (y - 1); omega
  · rw [Int.add_zero, Int.add_zero]; omega
  · rw [Int.add_zero]; omega
  · by_cases hb : onG W H (x + 1) (y + -1)
    · have := (back hb).2.2.2 (by simpa [hx1, hy1, hx2] using ho)
      simpa [hx1, hy1, hx2] using this
    · have := o1 hb
      rw [show y + -1 = y - 1 by omega] at this ⊢
      have := h.nn2 (x + 1) (y - 1); omega
  · rw [Int.add_zero]; omega
  · omega
theorem Cham.low (h : Cham W H f0 f1 f2) (x y : Int) : f2 x y ≤ f1 x y := by
  by_cases ho : onG W H x y
  · exact (h.dn_le ho).1
  · rw [h.out1 x y ho, h.out2 x y ho]; exact Int.le_refl _
theorem Cham.some (h : Cham W H f0 f1 f2) {x y : Int} (ho : onG W H x y) : f2 x y = f0 x y ∨ ∃ dx dy, -1 ≤ dx ∧ dx ≤ 1 ∧ -1 ≤ dy ∧ dy ≤ 1 ∧ f2 x y = f2 (x + dx) (y + dy) + 1 := by
  obtain ⟨a01, _, _, _, _, a06⟩ := h.dn_le ho
  obtain ⟨_, _, _, _, _, a16⟩ := h.up_le ho
  have A := fun dx dy (h1 : -1 ≤ dx) (h2 : dx ≤ 1) (h3 : -1 ≤ dy) (h4 : dy ≤ 1) => h.all (dx := dx) (dy := dy) ho h1 h2 h3 h4
  rcases a06 with e | e | e | e | e
  · rcases a16 with e2 | e2 | e2 | e2 | e2
    · exact .inl (e.trans e2)
    · have h1 := A (-1) 0 (by omega) (by omega) (by omega) (by omega)
      have h2 := h.low (x - 1) y
      refine .inr ⟨-1, 0, by omega, by omega, by omega, by omega, ?_⟩
      rw [show x + -1 = x - 1 by omega, Int.add_zero] at h1 ⊢; omega
    · have h1 := A (-1) (-1) (by omega) (by omega) (by omega) (by omega)
      have h2 := h.low (x - 1) (y - 1)
      refine .inr ⟨-1, -1, by omega, by omega, by omega, by omega, ?_⟩
      rw [show x + -1 = x - 1 by omega, show y + -1 = y - 1 by omega] at h1 ⊢; omega
    · have h1 := A 0 (-1) (by omega) (by omega) (by omega) (by omega)
      have h2 := h.low x (y - 1)
      refine .inr ⟨0, -1, by omega, by omega, by omega, by omega, ?_⟩
      rw [Int.add_zero, show y + -1 = y - 1 by omega] at h1 ⊢; omega
    · have h1 := A 1 (-1) (by omega) (by omega) (by omega) (by omega)
      have h2 := h.low (x + 1) (y - 1)
      refine .inr ⟨1, -1, by omega, by omega, by omega, by omega, ?_⟩
      rw [show y + -1 = y - 1 by omega] at h1 ⊢; omega
  · exact .inr ⟨1, 0, by omega, by omega, by omega, by omega, by rw [Int.add_zero]; exact e⟩
  · exact .inr ⟨1, 1, by omega, by omega, by omega, by omega, e⟩
  · exact .inr ⟨0, 1, by omega, by omega, by omega, by omega, by rw [Int.add_zero]; exact e⟩
  · exact .inr ⟨-1, 1, by omega, by omega, by omega, by omega, by rw [show x + -1 = x - 1 by omega]; exact e⟩
theorem Cham.edge (h : Cham W H f0 f1 f2) : ∀ (n : Nat) (x y : Int), onG W H x y → (x < n → f2 x y ≤ x + 1) ∧ (W - x ≤ n → f2 x y ≤ W - x) := by
  intro n
  induction n with
  | zero => intro x y ho; unfold onG at ho; exact ⟨fun _ => by omega, fun _ => by omega⟩
  | succ n ih =>
    intro x y ho
    refine ⟨fun hn => ?_, fun hn => ?_⟩
    · have h1 := h.all (dx := -1) (dy := 0) ho (by omega) (by omega) (by omega) (by omega)
      rw [show x + -1 = x - 1 by omega, Int.add_zero] at h1
      by_cases hx : 0 ≤ x - 1
      · have := (ih (x - 1) y (by unfold onG at ho ⊢; omega)).1 (by omega)
        omega
      · have := h.out2 (x - 1) y (by unfold onG; omega)
        unfold onG at ho; omega
    · have h1 := h.all (dx := 1) (dy := 0) ho (by omega) (by omega) (by omega) (by omega)
      rw [Int.add_zero] at h1
      by_cases hx : x + 1 < W
      · have := (ih (x + 1) y (by unfold onG at ho ⊢; omega)).2 (by omega)
        omega
      · have := h.out2 (x + 1) y (by unfold onG; omega)
        unfold onG at ho; omega
/-- What two passes leave is room. -/
theorem Cham.room (h : Cham W H f0 f1 f2) {op : Int → Int → Prop} (hW : W ≤ 128) (h0 : ∀ x y, onG W H x y → op x y → f0 x y = 128) (h0' : ∀ x y, onG W H x y → ¬ op x y → f0 x y = 0) : Room W H op f2 := by
  have top : ∀ x y, onG W H x y → f2 x y < 128 := fun x y ho => by
    have e := h.edge (x.toNat + (W - x).toNat + 1) x y ho
    unfold onG at ho
    have e1 := e.1 (by omega)
    have e2 := e.2 (by omega)
    omega
  refine ⟨h.out2, h.nn2, fun x y ho hs => ?_, fun x y ho hs => ?_, fun x y dx dy ho h1 h2 h3 h4 => h.all ho h1 h2 h3 h4, fun x y ho hs => ?_⟩
  · have a := (h.dn_le ho).1
    have b := (h.up_le ho).1
    rw [h0' x y ho hs] at b
    have := h.nn2 x y
    omega
  · rcases h.some ho with e | ⟨dx, dy, _, _, _, _, e⟩
    · rw [e, h0 x y ho hs]; omega
    · have := h.nn2 (x + dx) (y + dy); omega
  · rcases h.some ho with e | e
    · have := top x y ho
      rw [e, h0 x y ho hs] at this; omega
    · exact e

/-- All within r steps is there, and open. -/
def Full (W H : Int) (op : Int → Int → Prop) (x y : Int) (r : Int) : Prop := ∀ dx dy, -r ≤ dx → dx ≤ r → -r ≤ dy → dy ≤ r → onG W H (x + dx) (y + dy) ∧ op (x + dx) (y + dy)
variable {op : Int → Int → Prop} {f : Int → Int → Int}
/-- A step on the way to (dx, dy). -/
def sgw (d : Int) : Int := if 0 < d then 1 else if d < 0 then -1 else 0
theorem Room.full (h : Room W H op f) : ∀ (r : Nat) (x y : Int), (r : Int) < f x y ↔ Full W H op x y r := by
  intro r
  induction r with
  | zero =>
    intro x y
    refine ⟨fun hr dx dy h1 h2 h3 h4 => ?_, fun hf => ?_⟩
    · obtain rfl : dx = 0 := by omega
      obtain rfl : dy = 0 := by omega
      rw [Int.add_zero, Int.add_zero]
      have ho : onG W H x y := by
        by_cases ho : onG W H x y
        · exact ho
        · rw [h.out x y ho] at hr; omega
      refine ⟨ho, ?_⟩
      by_cases hs : op x y
      · exact hs
      · rw [h.shut x y ho hs] at hr; omega
    · have := hf 0 0 (by omega) (by omega) (by omega) (by omega)
      rw [Int.add_zero, Int.add_zero] at this
      have := h.pos x y this.1 this.2
      omega
  | succ r ih =>
    intro x y
    refine ⟨fun hr dx dy h1 h2 h3 h4 => ?_, fun hf => ?_⟩
    · have ho : onG W H x y := by
        by_cases ho : onG W H x y
        · exact ho
        · rw [h.out x y ho] at hr; omega
      have hl := h.lip x y (sgw dx) (sgw dy) ho (by unfold sgw; split <;> (try split) <;> omega) (by unfold sgw; split <;> (try split) <;> omega) (by unfold sgw; split <;> (try split) <;> omega) (by unfold sgw; split <;> (try split) <;> omega)
      have := (ih (x + sgw dx) (y + sgw dy)).1 (by omega) (dx - sgw dx) (dy - sgw dy) (by unfold sgw; split <;> (try split) <;> omega) (by unfold sgw; split <;> (try split) <;> omega) (by unfold sgw; split <;> (try split) <;> omega) (by unfold sgw; split <;> (try split) <;> omega)
      rwa [show x + sgw dx + (dx - sgw dx) = x + dx by omega, show y + sgw dy + (dy - sgw dy) = y + dy by omega] at this
    · have h0 := hf 0 0 (by omega) (by omega) (by omega) (by omega)
      rw [Int.add_zero, Int.add_zero] at h0
      obtain ⟨dx, dy, g1, g2, g3, g4, e⟩ := h.got x y h0.1 h0.2
      have := (ih (x + dx) (y + dy)).2 fun ex ey k1 k2 k3 k4 => by
        have := hf (dx + ex) (dy + ey) (by omega) (by omega) (by omega) (by omega)
        rwa [← Int.add_assoc, ← Int.add_assoc] at this
      omega
/-- Where more is open there is not less room. -/
theorem Room.mono {op' : Int → Int → Prop} {g : Int → Int → Int} (h : Room W H op f) (h' : Room W H op' g) (hs : ∀ x y, onG W H x y → op x y → op' x y) (x y : Int) : f x y ≤ g x y := by
  by_cases hc : f x y ≤ g x y
  · exact hc
  · have n := h'.nn x y
    obtain ⟨r, hr⟩ := Int.eq_ofNat_of_zero_le n
    have h1 := (h.full r x y).1 (by omega)
    have h2 := (h'.full r x y).2 fun dx dy a b c d => ⟨(h1 dx dy a b c d).1, hs _ _ (h1 dx dy a b c d).1 (h1 dx dy a b c d).2⟩
    omega
theorem Room.same {g : Int → Int → Int} (h : Room W H op f) (h' : Room W H op g) (x y : Int) : f x y = g x y :=
  Int.le_antisymm (h.mono h' (fun _ _ _ k => k) x y) (h'.mono h (fun _ _ _ k => k) x y)
/-- Taking away, again and again, what stands beside what is away. -/
theorem Room.peel (h : Room W H op f) {r : Int} (hr : 0 ≤ r) {x y : Int} (ho : onG W H x y) : r + 1 < f x y ↔ r < f x y ∧ ∀ dx dy, -1 ≤ dx → dx ≤ 1 → -1 ≤ dy → dy ≤ 1 → r < f (x + dx) (y + dy) := by
  refine ⟨fun hf => ⟨by omega, fun dx dy a b c d => by have := h.lip x y dx dy ho a b c d; omega⟩, fun ⟨h1, h2⟩ => ?_⟩
  have hop : op x y := by
    by_cases hs : op x y
    · exact hs
    · rw [h.shut x y ho hs] at h1; omega
  obtain ⟨dx, dy, a, b, c, d, e⟩ := h.got x y ho hop
  have := h2 dx dy a b c d
  omega
end
end Go.Proofs.Ytfgjiaakoacomaa
namespace Go.Proofs.Ytfgjiaakoacomaa
set_option maxRecDepth 20000
open Go.RowKit

def atK (W H : Int) (ks : List Int) (x y : Int) : Int := if onG W H x y then ks.getD (x + W * y).toNat 0 else 0
def pass1 (W H : Int) (t : Nat) (ks : List Int) (d : Int × Int) : List Int := ks.set t (min (ks.getD t 0) (atK W H ks ((t : Int) % W + d.1) ((t : Int) / W + d.2) + 1))
def okK (n : Nat) (ks : List Int) : Prop := ks.length = n ∧ ∀ v ∈ ks, 0 ≤ v ∧ v ≤ 128
theorem okK_at {n : Nat} {ks : List Int} (h : okK n ks) (i : Nat) : 0 ≤ ks.getD i 0 ∧ ks.getD i 0 ≤ 128 := by
  by_cases hi : i < ks.length
  · have : ks.getD i 0 ∈ ks := by simp only [List.getD, List.getElem?_eq_getElem hi, Option.getD_some]; exact List.getElem_mem hi
    exact h.2 _ this
  · simp [List.getD, hi]
theorem atK_range {n : Nat} {ks : List Int} (h : okK n ks) (W H x y : Int) : 0 ≤ atK W H ks x y ∧ atK W H ks x y ≤ 128 := by
  unfold atK
  split
  · exact okK_at h _
  · omega
theorem okK_pass {n : Nat} {ks : List Int} (h : okK n ks) (W H : Int) (t : Nat) (d : Int × Int) : okK n (pass1 W H t ks d) := by
  refine ⟨by unfold pass1; rw [List.length_set]; exact h.1, fun v hv => ?_⟩
  rcases List.mem_or_eq_of_mem_set hv with hv | rfl
  · exact h.2 v hv
  · have a := okK_at h t
    have b := atK_range h W H ((t : Int) % W + d.1) ((t : Int) / W + d.2)
    omega
theorem okK_fold {n : Nat} (W H : Int) (t : Nat) : ∀ (ds : List (Int × Int)) (ks : List Int), okK n ks → okK n (ds.foldl (pass1 W H t) ks)
  | [], _, h => h
  | d :: ds, _, h => okK_fold W H t ds _ (okK_pass h W H t d)

set_option maxHeartbeats 3200000 in
set_option maxRecDepth 20000 in
theorem clear_pass (W H : Int) (A : Option Addr) (n c : Nat) (g c2 t base wb : Nat) (ks : List Int) (ds : List (Int × Int)) (w : World) (hW0 : 1 ≤ W) (hW1 : W ≤ 128) (hH0 : 1 ≤ H) (hH1 : H ≤ 128) (hn : (n : Int) = W * H)
    (hO : w.ownsRow base 3 1 (.slice (some ⟨g, 0, none⟩) n c2) n (nums .i64 ks)) (hbase : base ≤ w.heap.size) (hks : okK n ks) (ht : t < n) (hds : ds.length = 4) (hd : ∀ d ∈ ds, (-1 ≤ d.1 ∧ d.1 ≤ 1) ∧ (-1 ≤ d.2 ∧ d.2 ≤ 1))
    (hwb : wb < w.heap.size) (hgb : g ≠ wb) (hw : ∀ i, i < 4 → w.cell? ⟨wb, i * 2, none⟩ = some (.int .i64 (ds.getD i (0, 0)).1) ∧ w.cell? ⟨wb, i * 2 + 1, none⟩ = some (.int .i64 (ds.getD i (0, 0)).2)) :
    Calls Try.prog 59 #[.agg #[.int .i64 W, .int .i64 H, .slice A n c], .slice (some ⟨g, 0, none⟩) n c2, .int .i64 (t : Int), .slice (some ⟨wb, 0, none⟩) 4 4] w fun e w' => e = .returned (.tuple #[]) ∧
      w'.ownsRow base 3 1 (.slice (some ⟨g, 0, none⟩) n c2) n (nums .i64 (ds.foldl (pass1 W H t) ks)) ∧ Below base w w' ∧ (∀ i, i < 4 → w'.cell? ⟨wb, i * 2, none⟩ = some (.int .i64 (ds.getD i (0, 0)).1) ∧ w'.cell? ⟨wb, i * 2 + 1, none⟩ = some (.int .i64 (ds.getD i (0, 0)).2)) := by
  have hp := prod_range hW0 hW1 hH0 hH1
  have hn4 : n ≤ 16384 := by omega
  have hG := Blk.new w #[.int .i64 W, .int .i64 H, .slice A n c] 24
  have hb := (Below.refl base w).alloc hbase (.cells #[.int .i64 W, .int .i64 H, .slice A n c] 24)
  have hWz : ¬ W = 0 := by omega
  replace hn := Lib.hid hn
  have hO1 := hO.alloc (.cells #[.int .i64 W, .int .i64 H, .slice A n c] 24)
  go_enter Try.func59, Try.ntmps59
  go_wp2_with fail
  have HX := Lib.hid hG
  refine' wp_region_grow [Fact.val _, Fact.val _, Fact.val _, Fact.val _, Fact.val _, Fact.val _, Fact.val _, Fact.val _, Fact.val _, Fact.val _] (A := _) ?hAa (by kernel_rfl) (by kernel_rfl) ?stepsa ?henda
  case hAa =>
    intro us X hX
    simp only [fillF, Act.put, List.setIfInBounds_toArray, List.set_cons_zero, List.set_cons_succ]
    (try go_simp)
    exact hX
  case stepsa =>
    refine ⟨fun us W9 HB hd K hK => ?_, ?_⟩
    · clear hd
      go_simp
      refine hK _ _ (Below.refl _ _) ?_
      (show _ = _); rfl
    refine ⟨fun us W9 HB hd K hK => ?_, ?_⟩
    · clear hd
      go_simp
      refine hK _ _ (Below.refl _ _) ?_
      (show _ = _); rfl
    refine ⟨fun us W9 HB hd K hK => ?_, ?_⟩
    · clear hd
      have q0 := (HX.out.below HB HX.out.lt).cell (i := 0) rfl
      go_simp
      refine hK _ _ (Below.refl _ _) ?_
      (show _ = _); rfl
    refine ⟨fun us W9 HB hd K hK => ?_, ?_⟩
    · clear hd
      go_simp
      refine hK _ _ (Below.refl _ _) ?_
      (show _ = _); rfl
    refine ⟨fun us W9 HB hd K hK => ?_, ?_⟩
    · clear hd
      go_simp
      refine hK _ _ (Below.refl _ _) ?_
      (show _ = _); rfl
    refine ⟨fun us W9 HB hd K hK => ?_, ?_⟩
    · clear hd
      go_simp
      refine hK _ _ (Below.refl _ _) ?_
      (show _ = _); rfl
    refine ⟨fun us W9 HB hd K hK => ?_, ?_⟩
    · clear hd
      have q0 := (HX.out.below HB HX.out.lt).cell (i := 0) rfl
      go_simp
      refine hK _ _ (Below.refl _ _) ?_
      (show _ = _); rfl
    refine ⟨fun us W9 HB hd K hK => ?_, ?_⟩
    · clear hd
      go_simp
      refine hK _ _ (Below.refl _ _) ?_
      (show _ = _); rfl
    refine ⟨fun us W9 HB hd K hK => ?_, ?_⟩
    · clear hd
      go_simp
      refine hK _ _ (Below.refl _ _) ?_
      (show _ = _); rfl
    refine ⟨fun us W9 HB hd K hK => ?_, ?_⟩
    · clear hd
      go_simp
      refine hK _ _ (Below.refl _ _) ?_
      (show _ = _); rfl
    trivial
  case henda =>
    intro us W9 HB hd
    clear hd
    have hX0 : 0 ≤ (t : Int) % W := Int.emod_nonneg _ hWz
    have hX1 : (t : Int) % W < W := Int.emod_lt_of_pos _ (by omega)
    have hY0 : 0 ≤ (t : Int) / W := Int.ediv_nonneg (by omega) (by omega)
    have hY1 : (t : Int) / W < H := Int.ediv_lt_of_lt_mul (by omega) (by rw [Int.mul_comm]; have := hn.out; omega)
    have e1 : ((t : Int)).tmod W = (t : Int) % W := Int.tmod_eq_emod_of_nonneg (by omega)
    have e2 : IntKind.i64.wrap ((t : Int) / W) = (t : Int) / W := IntWalk.i64_in _ (by omega)
    simp only [e1, e2]
    clear e1 e2
    have hP := fun ks d => (show pass1 W H t ks d = ks.set t (min (ks.getD t 0) (atK W H ks ((t : Int) % W + d.1) ((t : Int) / W + d.2) + 1)) from rfl)
    replace hP := Lib.hid hP
    generalize (t : Int) % W = X at *
    generalize (t : Int) / W = Y at *
    have hgl : g < w.heap.size := by
      obtain ⟨g', cap, hv, _, hlt⟩ := hO.form (by omega)
      injection hv with hv
      injection hv with hv
      injection hv with hv
      omega
    have hwb1 : wb < (w.alloc (.cells #[.int .i64 W, .int .i64 H, .slice A n c] 24)).heap.size := by simp; omega
    have hbW := (Below.refl w.heap.size w).alloc (Nat.le_refl _) (.cells #[.int .i64 W, .int .i64 H, .slice A n c] 24)
    have hw9 : ∀ i, i < 4 → W9.cell? ⟨wb, i * 2, none⟩ = some (.int .i64 (ds.getD i (0, 0)).1) ∧ W9.cell? ⟨wb, i * 2 + 1, none⟩ = some (.int .i64 (ds.getD i (0, 0)).2) := fun i hi =>
      ⟨(HB.cell hwb1).trans ((hbW.cell (p := ⟨wb, i * 2, none⟩) hwb).trans (hw i hi).1), (HB.cell hwb1).trans ((hbW.cell (p := ⟨wb, i * 2 + 1, none⟩) hwb).trans (hw i hi).2)⟩
    have hO9 := own_below hO1 HB
    have hG9 := HX.out.below HB HX.out.lt
    have hb9 := hb.trans (HB.mono (Nat.le_trans hbase hbW.size))
    clear HB HX hG hb hw hO1 hbW hwb1 hO
    go_wp2_with fail
    go_loopw [23] (fun iv wr => ∃ (i : Nat), i ≤ 4 ∧ iv = .int .i64 i ∧ wr.ownsRow base 3 1 (.slice (some ⟨g, 0, none⟩) n c2) n (nums .i64 ((ds.take i).foldl (pass1 W H t) ks)) ∧ Blk wr w.heap.size #[.int .i64 W, .int .i64 H, .slice A n c] 24 ∧ Below base w wr ∧ (∀ i, i < 4 → wr.cell? ⟨wb, i * 2, none⟩ = some (.int .i64 (ds.getD i (0, 0)).1) ∧ wr.cell? ⟨wb, i * 2 + 1, none⟩ = some (.int .i64 (ds.getD i (0, 0)).2))) (fun iv _ => 4 - (intOf iv).toNat)
    case atStart => exact ⟨0, by omega, rfl, hO9, hG9, hb9, hw9⟩
    case round =>
      clear hO9 hG9 hb9 hw9
      obtain ⟨i, hi, rfl, hO, hG, hb, hw⟩ := hrel
      by_cases hi4 : i < 4
      case neg =>
        obtain rfl : i = 4 := by omega
        rw [List.take_of_length_le (by omega)] at hO
        have HO := Lib.hid hO
        have HB := Lib.hid hb
        have HW := Lib.hid hw
        clear hO hG hb hw
        go_wp2_with fail
        go_end0
        exact ⟨rfl, HO.out, HB.out, HW.out⟩
      have hlk := okK_fold W H t (ds.take i) ks hks
      have htk : (ds.take (i + 1)).foldl (pass1 W H t) ks = pass1 W H t ((ds.take i).foldl (pass1 W H t) ks) (ds.getD i (0, 0)) := by
        rw [List.take_succ_eq_append_getElem (by omega), List.foldl_append]
        simp only [List.foldl_cons, List.foldl_nil, List.getD, List.getElem?_eq_getElem (show i < ds.length by omega), Option.getD_some]
      rw [hP.out] at htk
      obtain ⟨⟨dx0, dx1⟩, dy0, dy1⟩ := hd (ds.getD i (0, 0)) (by simp only [List.getD, List.getElem?_eq_getElem (show i < ds.length by omega), Option.getD_some]; exact List.getElem_mem _)
      obtain ⟨k0, k1⟩ := hw i hi4
      have HW := Lib.hid hw
      generalize hdd : ds.getD i (0, 0) = dd at *
      obtain ⟨dx, dy⟩ := dd
      simp only at dx0 dx1 dy0 dy1 k0 k1 htk
      replace htk := Lib.hid htk
      replace hdd := Lib.hid hdd
      generalize (ds.take i).foldl (pass1 W H t) ks = l at *
      clear hw
      have hwr := hb.size
      have hDb := Blk.new wr #[.int .i64 dx, .int .i64 dy] 80
      have hbD : Below wr.heap.size wr (wr.alloc (.cells #[.int .i64 dx, .int .i64 dy] 80)) := (Below.refl _ _).alloc (Nat.le_refl _) _
      replace hO := own_below hO hbD
      replace hG := hG.below hbD hG.lt
      replace hb := hb.trans (hbD.mono (Nat.le_trans hbase hwr))
      have hwb3 : wb < wr.heap.size := by omega
      replace HW := Lib.hid (fun i hi => And.intro ((hbD.cell (p := ⟨wb, i * 2, none⟩) hwb3).trans (HW.out i hi).1) ((hbD.cell (p := ⟨wb, i * 2 + 1, none⟩) hwb3).trans (HW.out i hi).2))
      have C := Lib.hid (fun W' => ground_on W H (X + dx) (Y + dy) A n c W')
      have u0 := hDb.cell (i := 0) rfl
      have u1 := hDb.cell (i := 1) rfl
      have z0 := hG.cell (i := 0) rfl
      have z1 := hG.cell (i := 1) rfl
      have z2 := hG.cell (i := 2) rfl
      clear hbD
      go_wp2_with fail
      generalize wr.alloc (.cells #[.int .i64 dx, .int .i64 dy] 80) = w4 at *
      generalize wr.heap.size = D at *
      refine Calls.mono (C.out _) ?_
      rintro e w5 ⟨rfl, hb5⟩
      clear C u0 u1 z0 z1 z2
      have hw4 := hb.size
      replace hO := own_below hO hb5
      replace hG := hG.below hb5 hG.lt
      replace hDb := hDb.below hb5 hDb.lt
      replace hb := hb.trans (hb5.mono (Nat.le_trans hbase hw4))
      have hwb4 : wb < w4.heap.size := by omega
      replace HW := Lib.hid (fun i hi => And.intro ((hb5.cell (p := ⟨wb, i * 2, none⟩) hwb4).trans (HW.out i hi).1) ((hb5.cell (p := ⟨wb, i * 2 + 1, none⟩) hwb4).trans (HW.out i hi).2))
      clear hb5
      obtain ⟨gt, hgt, _, hgl5, hct, hft⟩ := own_at hO ht
      cases hgt
      have hv0 := okK_at hlk t
      have fin : Hid (∀ (u : Int), u = min (l.getD t 0) (atK W H l (X + dx) (Y + dy) + 1) → (w5.setCell ⟨g, t, none⟩ (.int .i64 u)).ownsRow base 3 1 (.slice (some ⟨g, 0, none⟩) n c2) n (nums .i64 ((ds.take (i + 1)).foldl (pass1 W H t) ks))) := fun u hu => by
        rw [htk.out, ← hu]
        exact own_store hO _
      have finG : Hid (∀ u, Blk (w5.setCell ⟨g, t, none⟩ u) w.heap.size #[.int .i64 W, .int .i64 H, .slice A n c] 24) := fun u => hG.other (a := ⟨g, t, none⟩) (by show w.heap.size ≠ g; omega) u
      have hbg : base ≤ g := by
        obtain ⟨g', cap, hv, hlt, _⟩ := hO.form (show 0 < n by omega)
        cases hv
        exact hlt
      have finB : Hid (∀ u, Below base w (w5.setCell ⟨g, t, none⟩ u)) := fun u => hb.setCell (p := ⟨g, t, none⟩) (by show base ≤ g; omega) u
      have finW : Hid (∀ u, ∀ i, i < 4 → (w5.setCell ⟨g, t, none⟩ u).cell? ⟨wb, i * 2, none⟩ = some (.int .i64 (ds.getD i (0, 0)).1) ∧ (w5.setCell ⟨g, t, none⟩ u).cell? ⟨wb, i * 2 + 1, none⟩ = some (.int .i64 (ds.getD i (0, 0)).2)) := fun u i hi =>
        ⟨(World.cell?_of_block (Below.heap_setCell _ _ _ _ (fun e => hgb e.symm))).trans (HW.out i hi).1, (World.cell?_of_block (Below.heap_setCell _ _ _ _ (fun e => hgb e.symm))).trans (HW.out i hi).2⟩
      have u0 := hDb.cell (i := 0) rfl
      have u1 := hDb.cell (i := 1) rfl
      have z0 := hG.cell (i := 0) rfl
      generalize hlt : l.getD t 0 = vt at *
      by_cases hon : 0 ≤ X + dx ∧ X + dx < W ∧ 0 ≤ Y + dy ∧ Y + dy < H
      · have hat : atK W H l (X + dx) (Y + dy) = l.getD (X + dx + W * (Y + dy)).toNat 0 := if_pos hon
        have m0 : 0 ≤ W * (Y + dy) := Int.mul_nonneg (by omega) (by omega)
        have m1 : W * (Y + dy + 1) ≤ W * H := Int.mul_le_mul_of_nonneg_left (by omega) (by omega)
        rw [Int.mul_add, Int.mul_one] at m1
        have hzn : X + dx + W * (Y + dy) < n := by have := hn.out; omega
        obtain ⟨z, hz⟩ := Int.eq_ofNat_of_zero_le (show 0 ≤ X + dx + W * (Y + dy) by omega)
        rw [hz, Int.toNat_natCast] at hat
        obtain ⟨gz, hgz, _, _, hcz, _⟩ := own_at hO (k := z) (by omega)
        cases hgz
        have hvz := okK_at hlk z
        have hZ := Lib.hid hz
        generalize hlz : l.getD z 0 = vz at *
        have FO := Lib.hid (fun u h => fin.out u (by rw [hat]; exact h))
        have hzb : (z : Int) < (n : Int) := by omega
        rw [show onB W H (X + dx) (Y + dy) = true from decide_eq_true hon]
        have w1 : wrap64 (X + dx + wrap64 (W * (Y + dy))) = (z : Int) := by
          clear hlk htk hP FO fin
          generalize W * (Y + dy) = m at *
          unfold wrap64
          omega
        clear hO hG hb hDb HW hat fin hlk htk hP
        clear hz hZ hzn m0 m1
        go_wp2_with fail
        go_roundw
        case rel => exact ⟨i + 1, by omega, by go_num, FO.out _ (by omega), finG.out _, finB.out _, finW.out _⟩
        case measure => simp [intOf]; omega
      · have hat : atK W H l (X + dx) (Y + dy) = 0 := if_neg hon
        have FO := Lib.hid (fun u h => fin.out u (by rw [hat]; exact h))
        rw [show onB W H (X + dx) (Y + dy) = false from decide_eq_false hon]
        clear hO hG hb hDb HW hat fin hlk htk hP hon
        go_wp2_with fail
        go_roundw
        case rel => exact ⟨i + 1, by omega, by go_num, FO.out _ (by omega), finG.out _, finB.out _, finW.out _⟩
        case measure => simp [intOf]; omega
end Go.Proofs.Ytfgjiaakoacomaa
namespace Go.Proofs.Ytfgjiaakoacomaa
set_option maxRecDepth 20000
open Go.RowKit

def upW : List (Int × Int) := [(-1, 0), (-1, -1), (0, -1), (1, -1)]
def dnW : List (Int × Int) := [(1, 0), (1, 1), (0, 1), (-1, 1)]
theorem atK_set {W H : Int} {ks : List Int} {t : Nat} {v x y : Int} (h : onG W H x y → (x + W * y).toNat ≠ t) : atK W H (ks.set t v) x y = atK W H ks x y := by
  unfold atK
  split
  · rename_i ho
    simp only [List.getD]
    rw [List.getElem?_set_ne (fun e => h ho e.symm)]
  · rfl
/-- Tiles that come ahead of one; those that come behind it. -/
theorem ahead {W H : Int} {n t : Nat} (hW : 1 ≤ W) (hn : (n : Int) = W * H) (ht : t < n) {d : Int × Int} (hd : d ∈ upW) : onG W H (tX W t + d.1) (tY W t + d.2) → (tX W t + d.1 + W * (tY W t + d.2)).toNat < t := fun ho => by
  obtain ⟨⟨a0, a1, a2, a3⟩, e⟩ := tile_xy hW hn ht
  obtain ⟨b0, b1, b2, b3⟩ := ho
  have m0 : 0 ≤ W * tY W t := Int.mul_nonneg (by omega) a2
  unfold upW at hd
  simp only [List.mem_cons, List.not_mem_nil, or_false] at hd
  by_cases hy : 1 ≤ tY W t
  · have m2 := Int.mul_le_mul_of_nonneg_left hy (show 0 ≤ W by omega)
    rcases hd with rfl | rfl | rfl | rfl <;> simp only [Int.mul_add, Int.mul_neg, Int.mul_one, Int.mul_zero] at * <;> omega
  · rcases hd with rfl | rfl | rfl | rfl <;> simp only [Int.mul_add, Int.mul_neg, Int.mul_one, Int.mul_zero] at * <;> omega
theorem behind {W H : Int} {n t : Nat} (hW : 1 ≤ W) (hn : (n : Int) = W * H) (ht : t < n) {d : Int × Int} (hd : d ∈ dnW) : onG W H (tX W t + d.1) (tY W t + d.2) → t < (tX W t + d.1 + W * (tY W t + d.2)).toNat := fun ho => by
  obtain ⟨⟨a0, a1, a2, a3⟩, e⟩ := tile_xy hW hn ht
  obtain ⟨b0, b1, b2, b3⟩ := ho
  have m0 : 0 ≤ W * tY W t := Int.mul_nonneg (by omega) a2
  unfold dnW at hd
  simp only [List.mem_cons, List.not_mem_nil, or_false] at hd
  rcases hd with rfl | rfl | rfl | rfl <;> simp only [Int.mul_add, Int.mul_one, Int.mul_zero] at * <;> omega
def min5K (W H : Int) (ks : List Int) (t : Nat) (v : Int) : List (Int × Int) → Int
  | [] => v
  | d :: ds => min5K W H ks t (min v (atK W H ks (tX W t + d.1) (tY W t + d.2) + 1)) ds
theorem set_getD {l : List Int} {t : Nat} (h : t < l.length) (v : Int) : (l.set t v).getD t 0 = v := by simp [List.getD, h]
theorem fold_pass {W H : Int} {t : Nat} {ks : List Int} (hk : t < ks.length) : ∀ (ds : List (Int × Int)) (v : Int), (∀ d ∈ ds, onG W H (tX W t + d.1) (tY W t + d.2) → (tX W t + d.1 + W * (tY W t + d.2)).toNat ≠ t) →
    ds.foldl (pass1 W H t) (ks.set t v) = ks.set t (min5K W H ks t v ds)
  | [], v, _ => rfl
  | d :: ds, v, h => by
    rw [List.foldl_cons, min5K]
    have e : pass1 W H t (ks.set t v) d = ks.set t (min v (atK W H ks (tX W t + d.1) (tY W t + d.2) + 1)) := by
      unfold pass1
      rw [set_getD hk, List.set_set]
      have := atK_set (ks := ks) (v := v) (h d (List.mem_cons_self ..))
      unfold tX tY at this ⊢
      rw [this]
    rw [e]
    exact fold_pass hk ds _ fun d' hd' => h d' (List.mem_cons_of_mem _ hd')
theorem set_same {l : List Int} {t : Nat} : l.set t (l.getD t 0) = l := by
  by_cases h : t < l.length
  · simp [List.getD, h]
  · rw [List.set_eq_of_length_le (by omega)]
theorem fold_all {W H : Int} {t : Nat} {ks : List Int} (hk : t < ks.length) (ds : List (Int × Int)) (h : ∀ d ∈ ds, onG W H (tX W t + d.1) (tY W t + d.2) → (tX W t + d.1 + W * (tY W t + d.2)).toNat ≠ t) :
    ds.foldl (pass1 W H t) ks = ks.set t (min5K W H ks t (ks.getD t 0) ds) := by
  have := fold_pass hk ds (ks.getD t 0) h
  rwa [set_same] at this

/-- The first k tiles have been passed, forward. -/
structure Fwd (W H : Int) (n : Nat) (l0 : List Int) (k : Nat) (l : List Int) : Prop where
  ok : okK n l
  done : ∀ j, j < n → j < k → l.getD j 0 = min5K W H l j (l0.getD j 0) upW
  left : ∀ j, k ≤ j → l.getD j 0 = l0.getD j 0
structure Bwd (W H : Int) (n : Nat) (l1 : List Int) (k : Nat) (l : List Int) : Prop where
  ok : okK n l
  done : ∀ j, j < n → k ≤ j → l.getD j 0 = min5K W H l j (l1.getD j 0) dnW
  left : ∀ j, j < k → l.getD j 0 = l1.getD j 0
theorem min5K_set {W H : Int} {ks : List Int} {t j : Nat} {u : Int} : ∀ (ds : List (Int × Int)) (v : Int), (∀ d ∈ ds, onG W H (tX W j + d.1) (tY W j + d.2) → (tX W j + d.1 + W * (tY W j + d.2)).toNat ≠ t) → min5K W H (ks.set t u) j v ds = min5K W H ks j v ds
  | [], v, _ => rfl
  | d :: ds, v, h => by
    rw [min5K, min5K, atK_set (h d (List.mem_cons_self ..))]
    exact min5K_set ds _ fun d' hd' => h d' (List.mem_cons_of_mem _ hd')
theorem getD_set_ne' {l : List Int} {t j : Nat} {u : Int} (h : j ≠ t) : (l.set t u).getD j 0 = l.getD j 0 := by
  simp only [List.getD]; rw [List.getElem?_set_ne (fun e => h e.symm)]
theorem Fwd.step {W H : Int} {n k : Nat} {l0 l : List Int} (h : Fwd W H n l0 k l) (hW : 1 ≤ W) (hn : (n : Int) = W * H) (hk : k < n) : Fwd W H n l0 (k + 1) (upW.foldl (pass1 W H k) l) := by
  have hkl : k < l.length := by rw [h.ok.1]; exact hk
  refine ⟨okK_fold W H k upW l h.ok, ?_, ?_⟩
  all_goals rw [fold_all hkl upW fun d hd ho => Nat.ne_of_lt (ahead hW hn hk hd ho)]
  · intro j hj hjk
    rw [min5K_set upW _ fun d hd ho => by have := ahead hW hn hj hd ho; omega]
    by_cases e : j = k
    · subst e
      rw [set_getD hkl, h.left j (Nat.le_refl _)]
    · rw [getD_set_ne' e]
      exact h.done j hj (by omega)
  · intro j hj
    rw [getD_set_ne' (by omega)]
    exact h.left j (by omega)
theorem Bwd.step {W H : Int} {n k : Nat} {l1 l : List Int} (h : Bwd W H n l1 (k + 1) l) (hW : 1 ≤ W) (hn : (n : Int) = W * H) (hk : k < n) : Bwd W H n l1 k (dnW.foldl (pass1 W H k) l) := by
  have hkl : k < l.length := by rw [h.ok.1]; exact hk
  refine ⟨okK_fold W H k dnW l h.ok, ?_, ?_⟩
  all_goals rw [fold_all hkl dnW fun d hd ho => Nat.ne_of_gt (behind hW hn hk hd ho)]
  · intro j hj hjk
    rw [min5K_set dnW _ fun d hd ho => by have := behind hW hn hj hd ho; omega]
    by_cases e : j = k
    · subst e
      rw [set_getD hkl, h.left j (by omega)]
    · rw [getD_set_ne' e]
      exact h.done j hj (by omega)
  · intro j hj
    rw [getD_set_ne' (by omega)]
    exact h.left j (by omega)
theorem Fwd.start {W H : Int} {n : Nat} {l : List Int} (h : okK n l) : Fwd W H n l 0 l := ⟨h, fun j _ hj => absurd hj (by omega), fun _ _ => rfl⟩
theorem Bwd.start {W H : Int} {n : Nat} {l : List Int} (h : okK n l) : Bwd W H n l n l := ⟨h, fun j h1 h2 => absurd h1 (by omega), fun _ _ => rfl⟩
/-- Both passes together. -/
theorem passes_cham {W H : Int} {n : Nat} {l0 l1 l2 : List Int} (hn : (n : Int) = W * H) (h1 : Fwd W H n l0 n l1) (h2 : Bwd W H n l1 0 l2) : Cham W H (atK W H l0) (atK W H l1) (atK W H l2) := by
  have out : ∀ l x y, ¬ onG W H x y → atK W H l x y = 0 := fun l x y h => if_neg h
  refine ⟨out l1, out l2, fun x y => (atK_range h1.ok W H x y).1, fun x y => (atK_range h2.ok W H x y).1, fun x y ho => ?_, fun x y ho => ?_⟩
  · obtain ⟨e1, e2, e3, _⟩ := xy_tile hn ho
    have := h1.done _ e1 e1
    rw [show atK W H l1 x y = l1.getD (x + W * y).toNat 0 from if_pos ho, show atK W H l0 x y = l0.getD (x + W * y).toNat 0 from if_pos ho, this]
    simp only [min5K, upW, e2, e3]
    rw [show x + -1 = x - 1 by omega, show y + -1 = y - 1 by omega, Int.add_zero, Int.add_zero]
  · obtain ⟨e1, e2, e3, _⟩ := xy_tile hn ho
    have := h2.done _ e1 (Nat.zero_le _)
    rw [show atK W H l2 x y = l2.getD (x + W * y).toNat 0 from if_pos ho, show atK W H l1 x y = l1.getD (x + W * y).toNat 0 from if_pos ho, this]
    simp only [min5K, dnW, e2, e3]
    rw [show x + -1 = x - 1 by omega, Int.add_zero, Int.add_zero]
/-- A tile is open. -/
def opP (W : Int) (f : Nat → Bool) (x y : Int) : Prop := f (x + W * y).toNat = true
/-- A list of numbers is the room that each tile has. -/
def RoomL (W H : Int) (n : Nat) (f : Nat → Bool) (l : List Int) : Prop := l.length = n ∧ Room W H (opP W f) (atK W H l)
theorem passes_room {W H : Int} {n : Nat} {f : Nat → Bool} {l0 l1 l2 : List Int} (hW : W ≤ 128) (hn : (n : Int) = W * H) (h0 : ∀ t, t < n → l0.getD t 0 = if f t then 128 else 0) (h1 : Fwd W H n l0 n l1) (h2 : Bwd W H n l1 0 l2) : RoomL W H n f l2 := by
  refine ⟨h2.ok.1, (passes_cham hn h1 h2).room hW (fun x y ho hop => ?_) (fun x y ho hop => ?_)⟩
  · rw [show atK W H l0 x y = l0.getD (x + W * y).toNat 0 from if_pos ho, h0 _ (xy_tile hn ho).1, if_pos (show f (x + W * y).toNat = true from hop)]
  · rw [show atK W H l0 x y = l0.getD (x + W * y).toNat 0 from if_pos ho, h0 _ (xy_tile hn ho).1, if_neg (show ¬ f (x + W * y).toNat = true from hop)]
/-- There is one such list only. -/
theorem roomL_same {W H : Int} {n : Nat} {f : Nat → Bool} {l m : List Int} (hW : 1 ≤ W) (hn : (n : Int) = W * H) (h : RoomL W H n f l) (h' : RoomL W H n f m) : l = m := by
  refine List.ext_getElem (by rw [h.1, h'.1]) fun i h1 h2 => ?_
  obtain ⟨ho, e⟩ := tile_xy hW hn (show i < n by rw [← h.1]; exact h1)
  have := h.2.same h'.2 (tX W i) (tY W i)
  rw [show atK W H l (tX W i) (tY W i) = l.getD (tX W i + W * tY W i).toNat 0 from if_pos ho, show atK W H m (tX W i) (tY W i) = m.getD (tX W i + W * tY W i).toNat 0 from if_pos ho, e] at this
  simpa [List.getD, h1, h2] using this
end Go.Proofs.Ytfgjiaakoacomaa
