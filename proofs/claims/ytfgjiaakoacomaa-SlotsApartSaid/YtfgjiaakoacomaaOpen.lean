/- Arguments opened to cells: what a reading of a slice of structs says of each leaf of each element. Any program. -/
import Derived.Test.YtfgjiaakoacomaaBase
import Derived.ProofKit
import Derived.OpenShut
import Derived.Deep.Slices
import Derived.ChangeOld
import Derived.ShutString
namespace Go.Proofs.Ytfgjiaakoacomaa
set_option maxRecDepth 20000
open Go.RowKit Go.ChangeShapes Go.WideShapes Go.ChangeAt

section
variable {H : Type} {enc : TypeId × Value → H} {P : Program} {w : World} {base : Nat} {spare : Nat → Bool} {held : Bool}

/-- Type t bears at offset 'off' a part of type l, wherever t is read. -/
def Leaf (P : Program) (t : TypeId) (off : Nat) (l : TypeId) : Prop :=
  off + P.cellsOf l ≤ P.cellsOf t ∧ ∀ (H : Type) (enc : TypeId × Value → H) (w : World) (base : Nat) (spare : Nat → Bool) (held : Bool) (fuel : Nat) (cs : List Value) (x : DataW H × List MemPlace), DataW.trod enc P w base spare held fuel t cs = some x →
    ∃ (n : Nat) (y : DataW H × List MemPlace), DataW.trod enc P w base spare held n l ((cs.drop off).take (P.cellsOf l)) = some y

theorem Leaf.field {t : TypeId} {fs : Array Field} (ht : P.underlying t = some (.struct fs)) (i : Nat) (f : Field) (hf : fs[i]? = some f) (hb : f.offset + P.cellsOf f.type ≤ P.cellsOf t) : Leaf P t f.offset f.type := by
  refine ⟨hb, fun H enc w base spare held fuel cs x h => ?_⟩
  obtain ⟨xs, n, _, _, _, hl, hg⟩ := DataW.trod_struct ht h
  have hi : i < xs.length := by
    rw [hl]; exact (Array.getElem?_eq_some_iff.1 hf).1
  refine ⟨n, xs[i], ?_⟩
  rw [hg i f hf, List.getElem?_eq_getElem hi]

theorem Leaf.trans {t m l : TypeId} {a b c : Nat} (h : Leaf P t a m) (k : Leaf P m b l) (hc : c = a + b) : Leaf P t c l := by
  subst hc
  refine ⟨by have := h.1; have := k.1; omega, fun H enc w base spare held fuel cs x hx => ?_⟩
  obtain ⟨n, y, hy⟩ := h.2 H enc w base spare held fuel cs x hx
  obtain ⟨n', y', hy'⟩ := k.2 H enc w base spare held n _ y hy
  refine ⟨n', y', ?_⟩
  rw [← hy']
  congr 1
  rw [List.drop_take, List.take_take, List.drop_drop, Nat.min_eq_left (by have := k.1; omega)]

/-- A slice of any element type: nil, or it leads to a row; each one-cell leaf of each element is a cell that reads. -/
theorem open_rows {t e : TypeId} {fuel : Nat} {cs : List Value} {x : DataW H × List MemPlace} (ht : P.underlying t = some (.slice e)) (hf : DataW.trod enc P w 0 (fun _ => true) true fuel t cs = some x) :
    ∃ (A : Option Addr) (n c : Nat), cs = [.slice A n c] ∧ n ≤ c ∧ c ≤ maxLen ∧
      ∀ i, i < n → ∀ (off : Nat) (l : TypeId), Leaf P e off l → P.cellsOf l = 1 → ∃ (b o : Nat) (u : Value) (m : Nat) (y : DataW H × List MemPlace), A = some ⟨b, o, none⟩ ∧ b < w.heap.size ∧ w.cell? ⟨b, o + (i * P.cellsOf e + off), none⟩ = some u ∧ DataW.trod enc P w 0 (fun _ => true) true m l [u] = some y := by
  rcases Deep.open_slice ht hf with ⟨hcs, _⟩ | ⟨a, len, cap, m, k, D, Pl, hcs, _, hl, hm, hmm, _, hi⟩
  · exact ⟨none, 0, 0, hcs, Nat.le_refl _, Nat.zero_le _, fun i h => absurd h (by omega)⟩
  · have hm' : m = cap := by simpa using hmm
    subst hm'
    refine ⟨_, len, m, hcs, hl, hm, fun i hlt off l hleaf h1 => ?_⟩
    obtain ⟨cs', hc, ht'⟩ := hi i (by omega)
    obtain ⟨_, hcl, hat⟩ := World.cells?_some hc
    obtain ⟨n', y, hy⟩ := hleaf.2 H enc w 0 _ true _ cs' _ ht'
    have hoff : off < cs'.length := by have := hleaf.1; omega
    have hone : (cs'.drop off).take (P.cellsOf l) = [cs'[off]] := by
      rw [h1, List.drop_eq_getElem_cons hoff]; rfl
    rw [hone] at hy
    have hcell : w.cell? (a.add (i * P.cellsOf e + off)) = some cs'[off] := by
      rw [← add_of_add, hat off (by omega), List.getElem?_eq_getElem hoff]
    obtain ⟨b, o, s⟩ := a
    have hs : s = none := by
      obtain ⟨cs0, hc0, _⟩ := hi 0 (by omega)
      obtain ⟨_, hcl0, hat0⟩ := World.cells?_some hc0
      have h00 := hat0 0 (by have := hleaf.1; omega)
      rw [List.getElem?_eq_getElem (show 0 < cs0.length by have := hleaf.1; omega)] at h00
      simpa [Addr.add] using World.cell?_spot h00
    subst hs
    rw [Addr.add_lit] at hcell
    exact ⟨b, o, cs'[off], n', y, rfl, by simpa using World.block_lt_of_cell? w _ hcell, hcell, hy⟩

/-- A part that is a slice of numbers of one kind. -/
theorem open_nums {t e : TypeId} {k : IntKind} {fuel : Nat} {cs : List Value} {x : DataW H × List MemPlace} (ht : P.underlying t = some (.slice e)) (he : P.underlying e = some (.int k)) (h1 : P.cellsOf e = 1)
    (h : DataW.trod enc P w 0 (fun _ => true) true fuel t cs = some x) :
    ∃ (A : Option Addr) (n c : Nat) (l : List Int), cs = [.slice A n c] ∧ n ≤ c ∧ c ≤ maxLen ∧ Reads w w.heap.size 1 A n (nums k l) ∧ ∀ z ∈ l, (Lit.int k z).wf = true := by
  rcases open_ints ht he h1 h with ⟨hcs, _⟩ | ⟨a, len, cap, zs, hcs, _, hl, hm, hz, _, hcell, hwz⟩
  · exact ⟨none, 0, 0, [], hcs, Nat.le_refl _, Nat.zero_le _, Reads.none_, fun z hz => by cases hz⟩
  · have hz' : zs.length = cap := by simpa using hz
    refine ⟨some a, len, cap, zs.take len, hcs, hl, hm, ⟨by simp [nums]; omega, fun hn => ⟨a, rfl, ?_, fun j u hu => ?_⟩⟩, fun z hz => hwz z (List.mem_of_mem_take hz)⟩
    · have := World.block_lt_of_cell? w _ (hcell 0 (by omega))
      rwa [block_of_add] at this
    · have hj : j < len := by
        have := (List.getElem?_eq_some_iff.1 hu).1
        simp [nums] at this
        omega
      rw [hcell j (by omega), ← hu]
      simp [nums, List.getD, hj, show j < zs.length by omega]

theorem open_num {t : TypeId} {k : IntKind} {fuel : Nat} {cs : List Value} {x : DataW H × List MemPlace} (ht : P.underlying t = some (.int k))
    (h : DataW.trod enc P w 0 (fun _ => true) true fuel t cs = some x) : ∃ n, cs = [.int k n] ∧ (Lit.int k n).wf = true := by
  obtain ⟨n, h1, _, h3⟩ := DataW.trod_int ht h
  exact ⟨n, h1, h3⟩

theorem bytes_of_wf {l : List Int} (h : ∀ z ∈ l, (Lit.int .u8 z).wf = true) : IsBytes l := fun z hz => by
  have := h z hz
  simp [Lit.wf, IntKind.min, IntKind.max, IntKind.signed, IntKind.bits] at this
  omega
theorem i64_of_wf {z : Int} (h : (Lit.int .i64 z).wf = true) : -9223372036854775808 ≤ z ∧ z ≤ 9223372036854775807 := by
  simp [Lit.wf, IntKind.min, IntKind.max, IntKind.signed, IntKind.bits] at h
  omega
theorem u64_of_wf {z : Int} (h : (Lit.int .u64 z).wf = true) : 0 ≤ z ∧ z ≤ 18446744073709551615 := by
  simp [Lit.wf, IntKind.min, IntKind.max, IntKind.signed, IntKind.bits] at h
  omega

end
end Go.Proofs.Ytfgjiaakoacomaa
