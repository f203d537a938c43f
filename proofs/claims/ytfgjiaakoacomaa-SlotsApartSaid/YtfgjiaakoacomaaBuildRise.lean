/- Rows of buildings that came in; do their numbers rise? -/
import Derived.Test.YtfgjiaakoacomaaBuildMath
namespace Go.Proofs.Ytfgjiaakoacomaa
set_option maxRecDepth 20000
open Go.RowKit

def i64P (x : Int) : Prop := -9223372036854775808 ≤ x ∧ x ≤ 9223372036854775807
def BdsL (w : World) (A : Option Addr) (n : Nat) (l : List Bd) : Prop := l.length = n ∧ ∀ i, i < n → ∃ b o : Nat, A = some ⟨b, o, none⟩ ∧ b < w.heap.size ∧
  (w.cell? ⟨b, o + i * 6, none⟩ = some (.int .i64 (bdAt l i).id) ∧ w.cell? ⟨b, o + i * 6 + 1, none⟩ = some (.int .i64 (bdAt l i).ow) ∧ w.cell? ⟨b, o + i * 6 + 2, none⟩ = some (.int .i64 (bdAt l i).x) ∧
  w.cell? ⟨b, o + i * 6 + 3, none⟩ = some (.int .i64 (bdAt l i).y) ∧ w.cell? ⟨b, o + i * 6 + 4, none⟩ = some (.int .i64 (bdAt l i).w) ∧ w.cell? ⟨b, o + i * 6 + 5, none⟩ = some (.int .i64 (bdAt l i).h)) ∧
  i64P (bdAt l i).id ∧ i64P (bdAt l i).ow ∧ i64P (bdAt l i).x ∧ i64P (bdAt l i).y ∧ i64P (bdAt l i).w ∧ i64P (bdAt l i).h
theorem BdsL.below {w w' : World} {A : Option Addr} {n : Nat} {l : List Bd} (h : BdsL w A n l) (hb : Below w.heap.size w w') : BdsL w' A n l := ⟨h.1, fun i hi => by
  obtain ⟨b, o, h1, h2, ⟨k0, k1, k2, k3, k4, k5⟩, h4⟩ := h.2 i hi
  exact ⟨b, o, h1, Nat.lt_of_lt_of_le h2 hb.size, ⟨(hb.cell h2).trans k0, (hb.cell h2).trans k1, (hb.cell h2).trans k2, (hb.cell h2).trans k3, (hb.cell h2).trans k4, (hb.cell h2).trans k5⟩, h4⟩⟩
theorem BdsL.from {w w' : World} {B : Nat} {A : Option Addr} {n : Nat} {l : List Bd} (h : BdsL w A n l) (hb : Below B w w') (hB : ∀ b o, A = some ⟨b, o, none⟩ → b < B) : BdsL w' A n l := ⟨h.1, fun i hi => by
  obtain ⟨b, o, h1, h2, ⟨k0, k1, k2, k3, k4, k5⟩, h4⟩ := h.2 i hi
  have h3 := hB b o h1
  exact ⟨b, o, h1, Nat.lt_of_lt_of_le h2 hb.size, ⟨(hb.cell h3).trans k0, (hb.cell h3).trans k1, (hb.cell h3).trans k2, (hb.cell h3).trans k3, (hb.cell h3).trans k4, (hb.cell h3).trans k5⟩, h4⟩⟩

def risesTo (l : List Bd) (k : Nat) : Prop := ∀ i, i < k → 0 < i → (bdAt l (i - 1)).id < (bdAt l i).id
theorem rises_next {l : List Bd} {k : Nat} (h : risesTo l k) (hk : 0 < k → (bdAt l (k - 1)).id < (bdAt l k).id) : risesTo l (k + 1) := fun i hi h0 => by
  by_cases e : i < k
  · exact h i e h0
  · obtain rfl : i = k := by omega
    exact hk h0

set_option maxHeartbeats 1600000 in
set_option maxRecDepth 20000 in
theorem build_rising (A : Option Addr) (n c : Nat) (l : List Bd) (w : World) (hv : BdsL w A n l) (hn : n ≤ 1000000) :
    Calls Try.prog 71 #[.slice A n c] w fun e w' => e = .returned (.bool (decide (risesP l))) ∧ Below w.heap.size w w' := by
  generalize hr' : decide (risesP l) = r
  have hr := Lib.hid hr'
  clear hr'
  have hll := Lib.hid hv.1
  go_enter Try.func71, Try.ntmps71
  go_wp2_with fail
  go_loopw [3] (fun i wr => ∃ (k : Nat), k ≤ n + 1 ∧ 1 ≤ k ∧ i = .int .i64 k ∧ risesTo l k ∧ Below w.heap.size w wr) (fun i _ => n + 1 - (intOf i).toNat)
  case atStart => exact ⟨1, by omega, by omega, rfl, fun i hi h0 => by omega, Below.refl _ _⟩
  case round =>
    obtain ⟨k, hk, hk1, rfl, hall, hbl⟩ := hrel
    by_cases hlt : k < n
    case neg =>
      have hR : decide (risesP l) = true := decide_eq_true fun i hi h0 => hall i (by rw [hll.out] at hi; omega) h0
      rw [hr.out] at hR
      subst hR
      have HB := Lib.hid hbl
      clear hbl hv hall
      go_wp2_with fail
      go_ret
      exact ⟨rfl, HB.out⟩
    have hv1 := hv.below hbl
    obtain ⟨b, o, rfl, hb, ⟨k0, _⟩, hi0, _⟩ := hv1.2 k hlt
    obtain ⟨b', o', e', _, ⟨m0, _⟩, hj0, _⟩ := hv1.2 (k - 1) (by omega)
    simp only [Option.some.injEq, Addr.mk.injEq, and_true] at e'
    obtain ⟨rfl, rfl⟩ := e'
    have hstep := Lib.hid (fun h => rises_next hall (k := k) (fun _ => h))
    have hno := Lib.hid (fun (h : ¬ (bdAt l (k - 1)).id < (bdAt l k).id) (hP : risesP l) => h (hP k (by rw [hll.out]; exact hlt) (by omega)))
    obtain ⟨j, rfl⟩ : ∃ j, k = j + 1 := ⟨k - 1, by omega⟩
    rw [Nat.add_sub_cancel] at m0 hj0 hstep hno
    generalize (bdAt l j).id = u at *
    generalize (bdAt l (j + 1)).id = v at *
    have hw1 : ((j + 1 : Nat) : Int) - 1 = (j : Int) := by omega
    by_cases huv : u < v
    · have d1 : decide (v ≤ u) = false := by simpa using huv
      have HS := Lib.hid (hstep.out huv)
      have HB := Lib.hid hbl
      clear hv1 hall hv hstep hno hbl hi0 hj0
      go_wp2_with fail
      go_quiet (fail)
      go_wp2_with fail
      go_roundw
      case rel => exact ⟨j + 2, by omega, by omega, by go_num, HS.out, below_drewN HB.out nq⟩
      case measure => simp [intOf]; omega
    · have d1 : decide (v ≤ u) = true := by simpa using huv
      have hR : decide (risesP l) = false := decide_eq_false (hno.out huv)
      rw [hr.out] at hR
      subst hR
      have HB := Lib.hid hbl
      clear hv1 hall hv hstep hno hbl hi0 hj0
      go_wp2_with fail
      go_quiet (fail)
      go_wp2_with fail
      go_ret
      exact ⟨rfl, below_drewN HB.out nq⟩
set_option maxHeartbeats 1600000 in
set_option maxRecDepth 20000 in
theorem ref_ids (A : Option Addr) (n c : Nat) (l : List Bd) (w : World) (hv : BdsL w A n l) (hn : n ≤ 1000000) :
    Calls Try.prog 51 #[.slice A n c] w fun e w' => e = .returned (.bool (decide (risesP l))) ∧ Below w.heap.size w w' := by
  generalize hr' : decide (risesP l) = r
  have hr := Lib.hid hr'
  clear hr'
  have hll := Lib.hid hv.1
  go_enter Try.func51, Try.ntmps51
  go_wp2_with fail
  go_loopw [3] (fun i wr => ∃ (k : Nat), k ≤ n + 1 ∧ 1 ≤ k ∧ i = .int .i64 k ∧ risesTo l k ∧ Below w.heap.size w wr) (fun i _ => n + 1 - (intOf i).toNat)
  case atStart => exact ⟨1, by omega, by omega, rfl, fun i hi h0 => by omega, Below.refl _ _⟩
  case round =>
    obtain ⟨k, hk, hk1, rfl, hall, hbl⟩ := hrel
    by_cases hlt : k < n
    case neg =>
      have hR : decide (risesP l) = true := decide_eq_true fun i hi h0 => hall i (by rw [hll.out] at hi; omega) h0
      rw [hr.out] at hR
      subst hR
      have HB := Lib.hid hbl
      clear hbl hv hall
      go_wp2_with fail
      go_ret
      exact ⟨rfl, HB.out⟩
    have hv1 := hv.below hbl
    obtain ⟨b, o, rfl, hb, ⟨k0, _⟩, hi0, _⟩ := hv1.2 k hlt
    obtain ⟨b', o', e', _, ⟨m0, _⟩, hj0, _⟩ := hv1.2 (k - 1) (by omega)
    simp only [Option.some.injEq, Addr.mk.injEq, and_true] at e'
    obtain ⟨rfl, rfl⟩ := e'
    have hstep := Lib.hid (fun h => rises_next hall (k := k) (fun _ => h))
    have hno := Lib.hid (fun (h : ¬ (bdAt l (k - 1)).id < (bdAt l k).id) (hP : risesP l) => h (hP k (by rw [hll.out]; exact hlt) (by omega)))
    obtain ⟨j, rfl⟩ : ∃ j, k = j + 1 := ⟨k - 1, by omega⟩
    rw [Nat.add_sub_cancel] at m0 hj0 hstep hno
    generalize (bdAt l j).id = u at *
    generalize (bdAt l (j + 1)).id = v at *
    have hw1 : ((j + 1 : Nat) : Int) - 1 = (j : Int) := by omega
    by_cases huv : u < v
    · have d1 : decide (v ≤ u) = false := by simpa using huv
      have HS := Lib.hid (hstep.out huv)
      have HB := Lib.hid hbl
      clear hv1 hall hv hstep hno hbl hi0 hj0
      go_wp2_with fail
      go_quiet (fail)
      go_wp2_with fail
      go_roundw
      case rel => exact ⟨j + 2, by omega, by omega, by go_num, HS.out, below_drewN HB.out nq⟩
      case measure => simp [intOf]; omega
    · have d1 : decide (v ≤ u) = true := by simpa using huv
      have hR : decide (risesP l) = false := decide_eq_false (hno.out huv)
      rw [hr.out] at hR
      subst hR
      have HB := Lib.hid hbl
      clear hv1 hall hv hstep hno hbl hi0 hj0
      go_wp2_with fail
      go_quiet (fail)
      go_wp2_with fail
      go_ret
      exact ⟨rfl, below_drewN HB.out nq⟩
end Go.Proofs.Ytfgjiaakoacomaa
