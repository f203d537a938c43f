/- How much room there is: two passes give the way to the nearest tile that is shut, or not there. Plain mathematics; no program is named here. -/
import Derived.Test.YtfgjiaakoacomaaBase
namespace Go.Proofs.Ytfgjiaakoacomaa
set_option maxRecDepth 20000

/-- Is there such a place? -/
def onG (W H x y : Int) : Prop := 0 ≤ x ∧ x < W ∧ 0 ≤ y ∧ y < H
instance (W H x y : Int) : Decidable (onG W H x y) := by unfold onG; exact inferInstance

/-- What two passes leave: f1 behind the first, f2 behind both. -/
structure Cham (W H : Int) (f0 f1 f2 : Int → Int → Int) : Prop where
  out1 : ∀ x y, ¬ onG W H x y → f1 x y = 0
  out2 : ∀ x y, ¬ onG W H x y → f2 x y = 0
  nn1 : ∀ x y, 0 ≤ f1 x y
  nn2 : ∀ x y, 0 ≤ f2 x y
  up : ∀ x y, onG W H x y → f1 x y = min (min (min (min (f0 x y) (f1 (x - 1) y + 1)) (f1 (x - 1) (y - 1) + 1)) (f1 x (y - 1) + 1)) (f1 (x + 1) (y - 1) + 1)
  dn : ∀ x y, onG W H x y → f2 x y = min (min (min (min (f1 x y) (f2 (x + 1) y + 1)) (f2 (x + 1) (y + 1) + 1)) (f2 x (y + 1) + 1)) (f2 (x - 1) (y + 1) + 1)
section
variable {W H : Int} {f0 f1 f2 : Int → Int → Int}
theorem min5 (a b c d e : Int) : min (min (min (min a b) c) d) e ≤ a ∧ min (min (min (min a b) c) d) e ≤ b ∧ min (min (min (min a b) c) d) e ≤ c ∧ min (min (min (min a b) c) d) e ≤ d ∧ min (min (min (min a b) c) d) e ≤ e ∧
    (min (min (min (min a b) c) d) e = a ∨ min (min (min (min a b) c) d) e = b ∨ min (min (min (min a b) c) d) e = c ∨ min (min (min (min a b) c) d) e = d ∨ min (min (min (min a b) c) d) e = e) := by omega
theorem Cham.up_le (h : Cham W H f0 f1 f2) {x y : Int} (ho : onG W H x y) : f1 x y ≤ f0 x y ∧ f1 x y ≤ f1 (x - 1) y + 1 ∧ f1 x y ≤ f1 (x - 1) (y - 1) + 1 ∧ f1 x y ≤ f1 x (y - 1) + 1 ∧ f1 x y ≤ f1 (x + 1) (y - 1) + 1 ∧
    (f1 x y = f0 x y ∨ f1 x y = f1 (x - 1) y + 1 ∨ f1 x y = f1 (x - 1) (y - 1) + 1 ∨ f1 x y = f1 x (y - 1) + 1 ∨ f1 x y = f1 (x + 1) (y - 1) + 1) := by
  rw [h.up x y ho]; exact min5 _ _ _ _ _
theorem Cham.dn_le (h : Cham W H f0 f1 f2) {x y : Int} (ho : onG W H x y) : f2 x y ≤ f1 x y ∧ f2 x y ≤ f2 (x + 1) y + 1 ∧ f2 x y ≤ f2 (x + 1) (y + 1) + 1 ∧ f2 x y ≤ f2 x (y + 1) + 1 ∧ f2 x y ≤ f2 (x - 1) (y + 1) + 1 ∧
    (f2 x y = f1 x y ∨ f2 x y = f2 (x + 1) y + 1 ∨ f2 x y = f2 (x + 1) (y + 1) + 1 ∨ f2 x y = f2 x (y + 1) + 1 ∨ f2 x y = f2 (x - 1) (y + 1) + 1) := by
  rw [h.dn x y ho]; exact min5 _ _ _ _ _

/-- A later neighbour is not farther than one step more. -/
theorem Cham.bk (h : Cham W H f0 f1 f2) : ∀ (n m : Nat) (x y : Int), onG W H x y → H - y ≤ n → W - x ≤ m →
    (onG W H (x + 1) y → f2 (x + 1) y ≤ f2 x y + 1) ∧ (onG W H (x + 1) (y + 1) → f2 (x + 1) (y + 1) ≤ f2 x y + 1) ∧ (onG W H x (y + 1) → f2 x (y + 1) ≤ f2 x y + 1) ∧ (onG W H (x - 1) (y + 1) → f2 (x - 1) (y + 1) ≤ f2 x y + 1) := by
  intro n
  induction n with
  | zero => intro m x y ho h1 _; unfold onG at ho; omega
  | succ n ihn =>
    intro m
    induction m with
    | zero => intro x y ho _ h1; unfold onG at ho; omega
    | succ m ihm =>
      intro x y ho hn hm
      have hrow : ∀ x', onG W H x' (y + 1) → _ := fun x' ho' => ihn (W - x').toNat x' (y + 1) ho' (by omega) (by unfold onG at ho'; omega)
      have hx : onG W H (x + 1) y → _ := fun ho' => ihm (x + 1) y ho' hn (by omega)
      have a0 := h.dn_le ho
      have a1 := h.up_le ho
      -- E
      have eE : ¬ x + 1 < W → f2 (x + 1) y = 0 ∧ f2 (x + 1) (y + 1) = 0 ∧ f1 (x + 1) (y - 1) = 0 := fun hc => ⟨h.out2 _ _ (by unfold onG; omega), h.out2 _ _ (by unfold onG; omega), h.out1 _ _ (by unfold onG; omega)⟩
      have eW : ¬ 0 ≤ x - 1 → f2 (x - 1) (y + 1) = 0 ∧ f1 (x - 1) y = 0 := fun hc => ⟨h.out2 _ _ (by unfold onG; omega), h.out1 _ _ (by unfold onG; omega)⟩
      have eS : ¬ y + 1 < H → f2 (x + 1) (y + 1) = 0 ∧ f2 x (y + 1) = 0 ∧ f2 (x - 1) (y + 1) = 0 := fun hc => ⟨h.out2 _ _ (by unfold onG; omega), h.out2 _ _ (by unfold onG; omega), h.out2 _ _ (by unfold onG; omega)⟩
      have gE : x + 1 < W → f2 (x + 1) y ≤ f1 (x + 1) y ∧ f2 (x + 1) y ≤ f2 (x + 1) (y + 1) + 1 ∧ f2 (x + 1) y ≤ f2 x (y + 1) + 1 ∧ f1 (x + 1) y ≤ f1 x y + 1 ∧
          (y + 1 < H → f2 (x + 1) (y + 1) ≤ f2 (x + 1) y + 1 ∧ f2 x (y + 1) ≤ f2 (x + 1) y + 1) := fun hc => by
        have hoE : onG W H (x + 1) y := by unfold onG at ho ⊢; omega
        have b0 := h.dn_le hoE
        have b1 := h.up_le hoE
        have b2 := hx hoE
        simp only [Int.add_sub_cancel] at b0 b1 b2
        exact ⟨b0.1, b0.2.2.2.1, b0.2.2.2.2.1, b1.2.1, fun hs => ⟨b2.2.2.1 (by unfold onG at hoE ⊢; omega), b2.2.2.2 (by unfold onG at ho ⊢; omega)⟩⟩
      have gS : y + 1 < H → f2 x (y + 1) ≤ f1 x (y + 1) ∧ f2 x (y + 1) ≤ f2 (x + 1) (y + 1) + 1 ∧ f1 x (y + 1) ≤ f1 x y + 1 ∧ (x + 1 < W → f2 (x + 1) (y + 1) ≤ f2 x (y + 1) + 1) := fun hs => by
        have hoS : onG W H x (y + 1) := by unfold onG at ho ⊢; omega
        have b0 := h.dn_le hoS
        have b1 := h.up_le hoS
        have b2 := hrow x hoS
        simp only [Int.add_sub_cancel] at b0 b1 b2
        exact ⟨b0.1, b0.2.1, b1.2.2.2.1, fun hc => b2.1 (by unfold onG at hoS ⊢; omega)⟩
      have gSE : y + 1 < H → x + 1 < W → f2 (x + 1) (y + 1) ≤ f1 (x + 1) (y + 1) ∧ f1 (x + 1) (y + 1) ≤ f1 x y + 1 := fun hs hc => by
        have hoS : onG W H (x + 1) (y + 1) := by unfold onG at ho ⊢; omega
        have b0 := h.dn_le hoS
        have b1 := h.up_le hoS
        simp only [Int.add_sub_cancel] at b0 b1
        exact ⟨b0.1, b1.2.2.1⟩
      have gSW : y + 1 < H → 0 ≤ x - 1 → f2 (x - 1) (y + 1) ≤ f1 (x - 1) (y + 1) ∧ f1 (x - 1) (y + 1) ≤ f1 x y + 1 ∧ f2 (x - 1) (y + 1) ≤ f2 x (y + 1) + 1 ∧ f2 x (y + 1) ≤ f2 (x - 1) (y + 1) + 1 := fun hs hc => by
        have hoS : onG W H (x - 1) (y + 1) := by unfold onG at ho ⊢; omega
        have b0 := h.dn_le hoS
        have b1 := h.up_le hoS
        have b2 := hrow (x - 1) hoS
        simp only [Int.add_sub_cancel, Int.sub_add_cancel] at b0 b1 b2
        exact ⟨b0.1, b1.2.2.2.2.1, b0.2.1, b2.1 (by unfold onG at ho ⊢; omega)⟩
      have n2 := h.nn2 x y
      clear hrow hx ihn ihm
      obtain ⟨a01, a02, a03, a04, a05, a06⟩ := a0
      obtain ⟨_, a11, a12, a13, a14, _⟩ := a1
      unfold onG at *
      by_cases e : x + 1 < W
      · have gE := gE e
        obtain ⟨gE1, gE2, gE3, gE4, gE5⟩ := gE
        by_cases s : y + 1 < H
        · obtain ⟨gE6, gE7⟩ := gE5 s
          obtain ⟨gS1, gS2, gS3, gS4⟩ := gS s
          have gS5 := gS4 e
          obtain ⟨gSE1, gSE2⟩ := gSE s e
          by_cases w : 0 ≤ x - 1
          · obtain ⟨gSW1, gSW2, gSW3, gSW4⟩ := gSW s w
            clear eE eW eS gE5 gS gS4 gSE gSW
            exact ⟨fun _ => by omega, fun _ => by omega, fun _ => by omega, fun _ => by omega⟩
          · obtain ⟨eW1, eW2⟩ := eW w
            clear eE eW eS gE5 gS gS4 gSE gSW
            exact ⟨fun _ => by omega, fun _ => by omega, fun _ => by omega, fun hc => by omega⟩
        · obtain ⟨eS1, eS2, eS3⟩ := eS s
          clear eE eW eS gE5 gS gSE gSW
          exact ⟨fun _ => by omega, fun hc => by omega, fun hc => by omega, fun hc => by omega⟩
      · obtain ⟨eE1, eE2, eE3⟩ := eE e
        by_cases s : y + 1 < H
        · obtain ⟨gS1, gS2, gS3, gS4⟩ := gS s
          by_cases w : 0 ≤ x - 1
          · obtain ⟨gSW1, gSW2, gSW3, gSW4⟩ := gSW s w
            clear eE eW eS gE gS gS4 gSE gSW
            exact ⟨fun hc => by omega, fun hc => by omega, fun _ => by omega, fun _ => by omega⟩
          · obtain ⟨eW1, eW2⟩ := eW w
            clear eE eW eS gE gS gS4 gSE gSW
            exact ⟨fun hc => by omega, fun hc => by omega, fun _ => by omega, fun hc => by omega⟩
        · clear eE eW eS gE gS gSE gSW
          exact ⟨fun hc => by omega, fun hc => by omega, fun hc => by omega, fun hc => by omega⟩

/-- Room: shut tiles have none; each other one is one step farther than its nearest neighbour. -/
structure Room (W H : Int) (op : Int → Int → Prop) (f : Int → Int → Int) : Prop where
  out : ∀ x y, ¬ onG W H x y → f x y = 0
  nn : ∀ x y, 0 ≤ f x y
  shut : ∀ x y, onG W H x y → ¬ op x y → f x y = 0
  pos : ∀ x y, onG W H x y → op x y → 1 ≤ f x y
  lip : ∀ x y dx dy, onG W H x y → -1 ≤ dx → dx ≤ 1 → -1 ≤ dy → dy ≤ 1 → f x y ≤ f (x + dx) (y + dy) + 1
  got : ∀ x y, onG W H x y → op x y → ∃ dx dy, -1 ≤ dx ∧ dx ≤ 1 ∧ -1 ≤ dy ∧ dy ≤ 1 ∧ f x y = f (x + dx) (y + dy) + 1

theorem Cham.all (h : Cham W H f0 f1 f2) {x y dx dy : Int} (ho : onG W H x y) (h1 : -1 ≤ dx) (h2 : dx ≤ 1) (h3 : -1 ≤ dy) (h4 : dy ≤ 1) : f2 x y ≤ f2 (x + dx) (y + dy) + 1 := by
  have a0 := h.dn_le ho
  have a1 := h.up_le ho
  have n2 := h.nn2 x y
  have back : onG W H (x + dx) (y + dy) → _ := fun hb => h.bk (H - (y + dy)).toNat (W - (x + dx)).toNat (x + dx) (y + dy) hb (by unfold onG at hb; omega) (by unfold onG at hb; omega)
  have o1 : ¬ onG W H (x + dx) (y + dy) → f1 (x + dx) (y + dy) = 0 := fun hb => h.out1 _ _ hb
  have hx1 : x + -1 + 1 = x := by omega
  have hy1 : y + -1 + 1 = y := by omega
  have hx2 : x + 1 - 1 = x := by omega
  rcases (show dx = -1 ∨ dx = 0 ∨ dx = 1 by omega) with rfl | rfl | rfl <;> rcases (show dy = -1 ∨ dy = 0 ∨ dy = 1 by omega) with rfl | rfl | rfl
  · by_cases hb : onG W H (x + -1) (y + -1)
    · have := (back hb).2.1 (by simpa [hx1, hy1, hx2] using ho)
      simpa [hx1, hy1, hx2] using this
    · have := o1 hb
      rw [show x + -1 = x - 1 by omega, show y + -1 = y - 1 by omega] at this ⊢
      have := h.nn2 (x - 1) (y - 1); omega
  · by_cases hb : onG W H (x + -1) (y + 0)
    · have := (back hb).1 (by simpa [hx1, hy1, hx2] using ho)
      simpa [hx1, hy1, hx2] using this
    · have := o1 hb
      rw [show x + -1 = x - 1 by omega, show y + 0 = y by omega] at this ⊢
      have := h.nn2 (x - 1) y; omega
  · rw [show x + -1 = x - 1 by omega]; omega
  · by_cases hb : onG W H (x + 0) (y + -1)
    · have := (back hb).2.2.1 (by simpa [hx1, hy1, hx2] using ho)
      simpa [hx1, hy1, hx2] using this
    · have := o1 hb
      rw [show y + -1 = y - 1 by omega, show x + 0 = x by omega] at this ⊢
      have := h.nn2 x (y - 1); omega
  · rw [Int.add_zero, Int.add_zero]; omega
  · rw [Int.add_zero]; omega
  · by_cases hb : onG W H (x + 1) (y + -1)
    · have := (back hb).2.2.2 (by simpa [hx1, hy1, hx2] using ho)
      simpa [hx1, hy1, hx2] using this
    · have := o1 hb
      rw [show y + -1 = y - 1 by omega] at this ⊢
      have := h.nn2 (x + 1) (y - 1); omega
  · rw [Int.add_zero]; omega
  · omega
theorem Cham.low (h : Cham W H f0 f1 f2) (x y : Int) : f2 x y ≤ f1 x y := by
  by_cases ho : onG W H x y
  · exact (h.dn_le ho).1
  · rw [h.out1 x y ho, h.out2 x y ho]; exact Int.le_refl _
theorem Cham.some (h : Cham W H f0 f1 f2) {x y : Int} (ho : onG W H x y) : f2 x y = f0 x y ∨ ∃ dx dy, -1 ≤ dx ∧ dx ≤ 1 ∧ -1 ≤ dy ∧ dy ≤ 1 ∧ f2 x y = f2 (x + dx) (y + dy) + 1 := by
  obtain ⟨a01, _, _, _, _, a06⟩ := h.dn_le ho
  obtain ⟨_, _, _, _, _, a16⟩ := h.up_le ho
  have A := fun dx dy (h1 : -1 ≤ dx) (h2 : dx ≤ 1) (h3 : -1 ≤ dy) (h4 : dy ≤ 1) => h.all (dx := dx) (dy := dy) ho h1 h2 h3 h4
  rcases a06 with e | e | e | e | e
  · rcases a16 with e2 | e2 | e2 | e2 | e2
    · exact .inl (e.trans e2)
    · have h1 := A (-1) 0 (by omega) (by omega) (by omega) (by omega)
      have h2 := h.low (x - 1) y
      refine .inr ⟨-1, 0, by omega, by omega, by omega, by omega, ?_⟩
      rw [show x + -1 = x - 1 by omega, Int.add_zero] at h1 ⊢; omega
    · have h1 := A (-1) (-1) (by omega) (by omega) (by omega) (by omega)
      have h2 := h.low (x - 1) (y - 1)
      refine .inr ⟨-1, -1, by omega, by omega, by omega, by omega, ?_⟩
      rw [show x + -1 = x - 1 by omega, show y + -1 = y - 1 by omega] at h1 ⊢; omega
    · have h1 := A 0 (-1) (by omega) (by omega) (by omega) (by omega)
      have h2 := h.low x (y - 1)
      refine .inr ⟨0, -1, by omega, by omega, by omega, by omega, ?_⟩
      rw [Int.add_zero, show y + -1 = y - 1 by omega] at h1 ⊢; omega
    · have h1 := A 1 (-1) (by omega) (by omega) (by omega) (by omega)
      have h2 := h.low (x + 1) (y - 1)
      refine .inr ⟨1, -1, by omega, by omega, by omega, by omega, ?_⟩
      rw [show y + -1 = y - 1 by omega] at h1 ⊢; omega
  · exact .inr ⟨1, 0, by omega, by omega, by omega, by omega, by rw [Int.add_zero]; exact e⟩
  · exact .inr ⟨1, 1, by omega, by omega, by omega, by omega, e⟩
  · exact .inr ⟨0, 1, by omega, by omega, by omega, by omega, by rw [Int.add_zero]; exact e⟩
  · exact .inr ⟨-1, 1, by omega, by omega, by omega, by omega, by rw [show x + -1 = x - 1 by omega]; exact e⟩
theorem Cham.edge (h : Cham W H f0 f1 f2) : ∀ (n : Nat) (x y : Int), onG W H x y → (x < n → f2 x y ≤ x + 1) ∧ (W - x ≤ n → f2 x y ≤ W - x) := by
  intro n
  induction n with
  | zero => intro x y ho; unfold onG at ho; exact ⟨fun _ => by omega, fun _ => by omega⟩
  | succ n ih =>
    intro x y ho
    refine ⟨fun hn => ?_, fun hn => ?_⟩
    · have h1 := h.all (dx := -1) (dy := 0) ho (by omega) (by omega) (by omega) (by omega)
      rw [show x + -1 = x - 1 by omega, Int.add_zero] at h1
      by_cases hx : 0 ≤ x - 1
      · have := (ih (x - 1) y (by unfold onG at ho ⊢; omega)).1 (by omega)
        omega
      · have := h.out2 (x - 1) y (by unfold onG; omega)
        unfold onG at ho; omega
    · have h1 := h.all (dx := 1) (dy := 0) ho (by omega) (by omega) (by omega) (by omega)
      rw [Int.add_zero] at h1
      by_cases hx : x + 1 < W
      · have := (ih (x + 1) y (by unfold onG at ho ⊢; omega)).2 (by omega)
        omega
      · have := h.out2 (x + 1) y (by unfold onG; omega)
        unfold onG at ho; omega
/-- What two passes leave is room. -/
theorem Cham.room (h : Cham W H f0 f1 f2) {op : Int → Int → Prop} (hW : W ≤ 128) (h0 : ∀ x y, onG W H x y → op x y → f0 x y = 128) (h0' : ∀ x y, onG W H x y → ¬ op x y → f0 x y = 0) : Room W H op f2 := by
  have top : ∀ x y, onG W H x y → f2 x y < 128 := fun x y ho => by
    have e := h.edge (x.toNat + (W - x).toNat + 1) x y ho
    unfold onG at ho
    have e1 := e.1 (by omega)
    have e2 := e.2 (by omega)
    omega
  refine ⟨h.out2, h.nn2, fun x y ho hs => ?_, fun x y ho hs => ?_, fun x y dx dy ho h1 h2 h3 h4 => h.all ho h1 h2 h3 h4, fun x y ho hs => ?_⟩
  · have a := (h.dn_le ho).1
    have b := (h.up_le ho).1
    rw [h0' x y ho hs] at b
    have := h.nn2 x y
    omega
  · rcases h.some ho with e | ⟨dx, dy, _, _, _, _, e⟩
    · rw [e, h0 x y ho hs]; omega
    · have := h.nn2 (x + dx) (y + dy); omega
  · rcases h.some ho with e | e
    · have := top x y ho
      rw [e, h0 x y ho hs] at this; omega
    · exact e

/-- All within r steps is there, and open. -/
def Full (W H : Int) (op : Int → Int → Prop) (x y : Int) (r : Int) : Prop := ∀ dx dy, -r ≤ dx → dx ≤ r → -r ≤ dy → dy ≤ r → onG W H (x + dx) (y + dy) ∧ op (x + dx) (y + dy)
variable {op : Int → Int → Prop} {f : Int → Int → Int}
/-- A step on the way to (dx, dy). -/
def sgw (d : Int) : Int := if 0 < d then 1 else if d < 0 then -1 else 0
theorem Room.full (h : Room W H op f) : ∀ (r : Nat) (x y : Int), (r : Int) < f x y ↔ Full W H op x y r := by
  intro r
  induction r with
  | zero =>
    intro x y
    refine ⟨fun hr dx dy h1 h2 h3 h4 => ?_, fun hf => ?_⟩
    · obtain rfl : dx = 0 := by omega
      obtain rfl : dy = 0 := by omega
      rw [Int.add_zero, Int.add_zero]
      have ho : onG W H x y := by
        by_cases ho : onG W H x y
        · exact ho
        · rw [h.out x y ho] at hr; omega
      refine ⟨ho, ?_⟩
      by_cases hs : op x y
      · exact hs
      · rw [h.shut x y ho hs] at hr; omega
    · have := hf 0 0 (by omega) (by omega) (by omega) (by omega)
      rw [Int.add_zero, Int.add_zero] at this
      have := h.pos x y this.1 this.2
      omega
  | succ r ih =>
    intro x y
    refine ⟨fun hr dx dy h1 h2 h3 h4 => ?_, fun hf => ?_⟩
    · have ho : onG W H x y := by
        by_cases ho : onG W H x y
        · exact ho
        · rw [h.out x y ho] at hr; omega
      have hl := h.lip x y (sgw dx) (sgw dy) ho (by unfold sgw; split <;> (try split) <;> omega) (by unfold sgw; split <;> (try split) <;> omega) (by unfold sgw; split <;> (try split) <;> omega) (by unfold sgw; split <;> (try split) <;> omega)
      have := (ih (x + sgw dx) (y + sgw dy)).1 (by omega) (dx - sgw dx) (dy - sgw dy) (by unfold sgw; split <;> (try split) <;> omega) (by unfold sgw; split <;> (try split) <;> omega) (by unfold sgw; split <;> (try split) <;> omega) (by unfold sgw; split <;> (try split) <;> omega)
      rwa [show x + sgw dx + (dx - sgw dx) = x + dx by omega, show y + sgw dy + (dy - sgw dy) = y + dy by omega] at this
    · have h0 := hf 0 0 (by omega) (by omega) (by omega) (by omega)
      rw [Int.add_zero, Int.add_zero] at h0
      obtain ⟨dx, dy, g1, g2, g3, g4, e⟩ := h.got x y h0.1 h0.2
      have := (ih (x + dx) (y + dy)).2 fun ex ey k1 k2 k3 k4 => by
        have := hf (dx + ex) (dy + ey) (by omega) (by omega) (by omega) (by omega)
        rwa [← Int.add_assoc, ← Int.add_assoc] at this
      omega
/-- Where more is open there is not less room. -/
theorem Room.mono {op' : Int → Int → Prop} {g : Int → Int → Int} (h : Room W H op f) (h' : Room W H op' g) (hs : ∀ x y, onG W H x y → op x y → op' x y) (x y : Int) : f x y ≤ g x y := by
  by_cases hc : f x y ≤ g x y
  · exact hc
  · have n := h'.nn x y
    obtain ⟨r, hr⟩ := Int.eq_ofNat_of_zero_le n
    have h1 := (h.full r x y).1 (by omega)
    have h2 := (h'.full r x y).2 fun dx dy a b c d => ⟨(h1 dx dy a b c d).1, hs _ _ (h1 dx dy a b c d).1 (h1 dx dy a b c d).2⟩
    omega
theorem Room.same {g : Int → Int → Int} (h : Room W H op f) (h' : Room W H op g) (x y : Int) : f x y = g x y :=
  Int.le_antisymm (h.mono h' (fun _ _ _ k => k) x y) (h'.mono h (fun _ _ _ k => k) x y)
/-- Taking away, again and again, what stands beside what is away. -/
theorem Room.peel (h : Room W H op f) {r : Int} (hr : 0 ≤ r) {x y : Int} (ho : onG W H x y) : r + 1 < f x y ↔ r < f x y ∧ ∀ dx dy, -1 ≤ dx → dx ≤ 1 → -1 ≤ dy → dy ≤ 1 → r < f (x + dx) (y + dy) := by
  refine ⟨fun hf => ⟨by omega, fun dx dy a b c d => by have := h.lip x y dx dy ho a b c d; omega⟩, fun ⟨h1, h2⟩ => ?_⟩
  have hop : op x y := by
    by_cases hs : op x y
    · exact hs
    · rw [h.shut x y ho hs] at h1; omega
  obtain ⟨dx, dy, a, b, c, d, e⟩ := h.got x y ho hop
  have := h2 dx dy a b c d
  omega
end
end Go.Proofs.Ytfgjiaakoacomaa
