/- A region that draws its order, whose operations read, or call what makes new memory alone, but for the last few, which come up behind all others in one order: one walk serves every order. -/
import Derived.Test.YtneigplmgellcaaBase
import Derived.StillTailTactics
import Derived.Deep.Quiet
namespace Go.Proofs.Ytneigplmgellcaa
set_option maxRecDepth 20000
open Go.RowKit

section
variable {P : Program} {ops : Array Oper} {md : Region.Mode} {C : World → Prop}

/-- f operations of the first n come up, whatever the order; then L. -/
def headQ (P : Program) (md : Region.Mode) (ops : Array Oper) (C : World → Prop) (n : Nat) (L : Array Bool → Act → Prop) : Nat → Array Bool → Act → Prop
  | 0, b, a => L b a
  | f + 1, b, a => Region.ready md ops b ≠ [] ∧ ∀ i ∈ Region.ready md ops b, i < n ∧ qOp P ops C i (headQ P md ops C n L f (b.setIfInBounds i true)) a

theorem headQ_any {n g : Nat} {L : Array Bool → Act → Prop} {Q : Exit → Act → World → Prop} (hL : ∀ b a w, C w → L b a → wpAny P md ops Q g b a w) :
    ∀ (f : Nat) (b : Array Bool) (a : Act) (w : World), C w → headQ P md ops C n L f b a → wpAny P md ops Q (f + g) b a w := by
  intro f
  induction f with
  | zero => intro b a w hw h; rw [Nat.zero_add]; exact hL b a w hw h
  | succ f ih =>
    intro b a w hw h
    rw [Nat.succ_add]
    exact ⟨fun h0 => absurd h0 h.1, fun i hi => wpOp_of_qOp hw (fun a' w' hw' h' => ih _ a' w' hw' h') (h.2 i hi).2⟩

/-- The operation that stands first in the text may be taken first. -/
theorem headQ_first {n i : Nat} {o : Oper} {v : Value} {L : Array Bool → Act → Prop} (ho : ops[i]? = some o) (hsel : Region.noSelect ops = true)
    (hs : Region.sinkB md ops n = true) (hc : Region.chainB md ops n = true) (hn : n < ops.size) (hin : i < n) (hL : ∀ b a, L b a → ∀ j ∈ Region.ready md ops b, n ≤ j) :
    ∀ (f : Nat) (b : Array Bool) (a : Act), HeadInv md ops n b →
      (∀ j p, ops[j]? = some p → j ≠ i → b.getD j true = false → (∀ e ∈ p.after, Region.binds md e = true → e.on ≠ i) → o.apart ops p = true) →
      i ∈ Region.ready md ops b → YieldsIn P ops C o v a →
      headQ P md ops C n L f (b.setIfInBounds i true) (a.put o.dst v) → headQ P md ops C n L (f + 1) b a := by
  intro f
  induction f with
  | zero =>
    intro b a inv _ hr hy H
    refine ⟨fun h => (by rw [h] at hr; cases hr), fun j hj => ?_⟩
    have hlt : j < n := Nat.lt_of_not_le fun h => tail_waits hs hc hn inv _ i rfl hin (mem_ready.1 hr).1 j h hj
    by_cases e : j = i
    · subst e; exact ⟨hlt, hy.qOp ho H⟩
    · exact absurd (hL _ _ H j (ready_mono hj e)) (by omega)
  | succ f ih =>
    intro b a inv hf hr hy H
    refine ⟨fun h => (by rw [h] at hr; cases hr), fun j hj => ?_⟩
    have hlt : j < n := Nat.lt_of_not_le fun h => tail_waits hs hc hn inv _ i rfl hin (mem_ready.1 hr).1 j h hj
    refine ⟨hlt, ?_⟩
    by_cases e : j = i
    · subst e; exact hy.qOp ho H
    · obtain ⟨hun, p, hp, hall⟩ := mem_ready.1 hj
      have hno : ∀ d ∈ p.after, Region.binds md d = true → d.on ≠ i := fun d hd hb he => by
        have := hall d hd hb
        rw [he, getD_both (mem_ready.1 hr).1] at this
        cases this
      have h1 := qOp_put hp (hf j p hp e hun hno) (fun cs x => Region.noSelect_spec hsel i o cs x ho) (fun cs x => Region.noSelect_spec hsel j p cs x hp) hy (H.2 j (ready_mono hj e)).2
      refine qOp_mono (fun a' h2 => ih _ a' (inv.set hj hlt) (fun k q hq hk hu hw => hf k q hq hk ?_ hw) (ready_mono hr (Ne.symm e)) h2.1 ?_) h1
      · by_cases hjk : j = k
        · subst hjk; exact hun
        · rw [getD_set_ne true hjk] at hu; exact hu
      · rw [Array.setIfInBounds_comm _ _ e]; exact h2.2

theorem headQ_walk {n g : Nat} {K : Act → Prop} (hsel : Region.noSelect ops = true) (hs : Region.sinkB md ops n = true) (hc : Region.chainB md ops n = true) (hn : n < ops.size) :
    ∀ (l : List Oper) (k : Nat) (b : Array Bool) (a : Act), (∀ j, j < l.length → l[j]? = ops[k + j]?) → k + l.length = n → HeadInv md ops n b →
    Region.lexHead md ops g l.length k b = true → wpQuiet P ops C K l a → headQ P md ops C n (fun b' a' => Region.seqB md ops g n b' = true ∧ K a') l.length b a := by
  intro l
  induction l with
  | nil =>
    intro k b a _ hk _ hB h
    obtain rfl : k = n := by simpa using hk
    exact ⟨by simpa [Region.lexHead] using hB, h⟩
  | cons o l ih =>
    intro k b a hl hk inv hB h
    have h0 : ops[k]? = some o := by simpa using (hl 0 (by simp)).symm
    simp only [List.length_cons, Region.lexHead, Bool.and_eq_true] at hB hk
    have hr : k ∈ Region.ready md ops b := by simpa using hB.1.1
    obtain ⟨v, hy, hK⟩ := yieldsIn_of_qOp (C := C) (K := wpQuiet P ops C K l) h0 (by unfold qOp; simp only [h0]; exact h)
    refine headQ_first h0 hsel hs hc hn (by omega) (fun b' a' hb => seqB_ready hb.1) l.length b a inv (Region.free_spec h0 hB.1.2) hr hy
      (ih (k + 1) _ _ (fun j hj => ?_) (by omega) (inv.set hr (by omega)) hB.2 hK)
    have := hl (j + 1) (by simp; omega)
    simpa [Nat.add_assoc, Nat.add_comm 1 j] using this

theorem wp_region_over_tail {id : Nat} {Q : Exit → Act → World → Prop} {a : Act} {w : World} {l : List Oper} (n : Nat) (hm : P.follows .mixedOrders = true) (hB : Region.lexTailB .any l.toArray n = true)
    (h : wpQuiet P l.toArray (fun w' => ∃ x, w' = over w x) (fun a' => ∀ w', (∃ x, w' = over w x) → wpList P l.toArray Q (l.drop n) a' w') (l.take n) a) : (Code.region id l.toArray true).wp P Q a w := by
  simp only [Region.lexTailB, Bool.and_eq_true, decide_eq_true_eq] at hB
  obtain ⟨⟨⟨⟨hsel, hn⟩, hs⟩, hc⟩, hlex⟩ := hB
  have hn' : n < l.length := by simpa using hn
  have ht : (l.take n).length = n := by simp; omega
  have hd : (l.drop n).length = l.toArray.size - n := by simp
  have inv : HeadInv .any l.toArray n (Array.replicate l.toArray.size false) :=
    ⟨by simp, fun j p _ hl => (by rw [getD_replicate_false] at hl; cases hl), fun t _ h => getD_in (by simpa using h) (getD_replicate_false _ _)⟩
  have H := headQ_walk (md := .any) (g := l.toArray.size - n) hsel hs hc hn (l.take n) 0 _ a (fun j hj => by rw [ht] at hj; simp [hj]) (by simpa using ht) inv (by rw [ht]; exact hlex) h
  have := headQ_any (Q := Q) (g := l.toArray.size - n) (fun b a' w' hw hL => by
    have := wpAny_of_seq (md := .any) (Q' := Q) (l.drop n) n b a' w' (fun j => by simp [List.getElem?_drop]) (by rw [hd]; exact hL.1) (hL.2 w' hw)
    rwa [hd] at this) _ _ _ { w with drawn := w.drawn + 1 } ⟨w.drew, (over_self (Below.refl _ _).drew).symm⟩ H
  rw [ht, show n + (l.toArray.size - n) = l.toArray.size by omega] at this
  exact wp_region_any hm this
end
end Go.Proofs.Ytneigplmgellcaa
