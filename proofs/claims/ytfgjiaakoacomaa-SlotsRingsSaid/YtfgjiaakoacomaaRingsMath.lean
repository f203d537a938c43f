/- Rings of places on a plain ground of twenty-five by twenty-five. Plain mathematics. -/
import Derived.Test.YtfgjiaakoacomaaSlotsWake
namespace Go.Proofs.Ytfgjiaakoacomaa
set_option maxRecDepth 20000
open Go.RowKit

theorem plain_open (W : Int) (n t : Nat) : openT W (List.replicate n (0 : Int)) [] 0 0 t = true := by
  unfold openT
  have h : (List.replicate n (0 : Int)).getD t 0 = 0 := by
    simp only [List.getD, List.getElem?_replicate]
    split <;> rfl
  rw [h, show covK W [] 0 (t : Int) = false from rfl]
  decide
def room25 : List Int := intsOf 625 fun t => wallF 25 25 (-1) (-1) (tX 25 t) (tY 25 t)
theorem room_25 : RoomL 25 25 625 (openT 25 (List.replicate 625 (0 : Int)) [] 0 0) room25 := by
  obtain ⟨ml, hR, _⟩ := room_ex (openT 25 (List.replicate 625 (0 : Int)) [] 0 0) (W := 25) (H := 25) (n := 625) (by omega) (by omega) (by rfl)
  have e := plain_list (by omega) (by rfl) (fun t _ => plain_open 25 625 t) hR
  rw [← show ml = room25 from e]
  exact hR
def rings0 : List Int := [312, 286, 287, 288, 311, 313, 336, 337, 338, 260, 261, 262, 263, 264, 285, 289, 310, 314, 335, 339, 360, 361, 362, 363, 364]
def rings1 : List Int := [312, 234, 237, 240, 309, 315, 384, 387, 390, 156, 159, 162, 165, 168, 231, 243, 306, 318, 381, 393, 456, 459, 462, 465, 468]
theorem rings_0' : asI ((lvls (lvl 25 625 312 (2 * 0 + 1) (goodT room25 0)) 7).take 25) = rings0 := by decide +kernel
theorem rings_1' : asI ((lvls (lvl 25 625 312 (2 * 1 + 1) (goodT room25 1)) 7).take 25) = rings1 := by decide +kernel
theorem rings_0 : asI (slotsN 25 25 625 312 (2 * 0 + 1) (goodT room25 0) (25 : Int).toNat) = rings0 := by
  have hl : ((lvls (lvl 25 625 312 (2 * 0 + 1) (goodT room25 0)) 7).take 25).length = 25 := by rw [← asI_len, rings_0']; rfl
  rw [show (25 : Int).toNat = 25 from rfl, ← slots_stop (d := 7) (by decide) (by rw [hl]; exact Nat.le_refl _)]
  exact rings_0'
theorem rings_1 : asI (slotsN 25 25 625 312 (2 * 1 + 1) (goodT room25 1) (25 : Int).toNat) = rings1 := by
  have hl : ((lvls (lvl 25 625 312 (2 * 1 + 1) (goodT room25 1)) 7).take 25).length = 25 := by rw [← asI_len, rings_1']; rfl
  rw [show (25 : Int).toNat = 25 from rfl, ← slots_stop (d := 7) (by decide) (by rw [hl]; exact Nat.le_refl _)]
  exact rings_1'
def wantI (i : Nat) : Int := if 9 ≤ i then 2 else if 1 ≤ i then 1 else 0
def ringP4 (v m g : Int) : Prop := 0 ≤ v ∧ v < 625 ∧ max (v % 25 - 12) (max (-(v % 25 - 12)) (max (v / 25 - 12) (-(v / 25 - 12)))) = m ∧ (v % 25 - 12).tmod g = 0 ∧ (v / 25 - 12).tmod g = 0
instance (v m g : Int) : Decidable (ringP4 v m g) := by unfold ringP4; exact inferInstance
theorem at_0 : ∀ i, i < 25 → ringP4 (rings0.getD i 0) (wantI i * 1) 1 := by decide +kernel
theorem at_1 : ∀ i, i < 25 → ringP4 (rings1.getD i 0) (wantI i * 3) 3 := by decide +kernel
theorem ring_at0 {i : Nat} {c m : Int} (hi : i < 25) (hc : wantI i = c) (hm : c * 1 = m) : ringP4 (rings0.getD i 0) m 1 := by
  have := at_0 i hi
  rwa [hc, hm] at this
theorem ring_at1 {i : Nat} {c m : Int} (hi : i < 25) (hc : wantI i = c) (hm : c * 3 = m) : ringP4 (rings1.getD i 0) m 3 := by
  have := at_1 i hi
  rwa [hc, hm] at this
theorem plain_25 : isG 25 25 (List.replicate 625 (0 : Int)) = true := by decide +kernel
end Go.Proofs.Ytfgjiaakoacomaa
