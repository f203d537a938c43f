/- What the laws of layer 2 share: the drawn ways opened, the length that wakes. -/
import Derived.Test.YtjbnpgjndohjcaaVecOps
namespace Go.Proofs.Ytjbnpgjndohjcaa
set_option maxRecDepth 20000
open Go.RowKit Go.WideShapes Go.ChangeShapes

/-- A slice of thronglaw2.Ask that came in. -/
def Asks2 (w : World) (A : Option Addr) (n : Nat) : Prop := ∀ i, i < n → ∃ (b o : Nat) (x y p q k : Int),
  A = some ⟨b, o, none⟩ ∧ b < w.heap.size ∧ w.cell? ⟨b, o + i * 5, none⟩ = some (.int .i64 x) ∧ w.cell? ⟨b, o + i * 5 + 1, none⟩ = some (.int .i64 y) ∧ w.cell? ⟨b, o + i * 5 + 2, none⟩ = some (.int .i64 p) ∧ w.cell? ⟨b, o + i * 5 + 3, none⟩ = some (.int .i64 q) ∧ w.cell? ⟨b, o + i * 5 + 4, none⟩ = some (.int .i64 k) ∧
  (-9223372036854775808 ≤ x ∧ x ≤ 9223372036854775807) ∧ (-9223372036854775808 ≤ y ∧ y ≤ 9223372036854775807) ∧ (-9223372036854775808 ≤ p ∧ p ≤ 9223372036854775807) ∧ (-9223372036854775808 ≤ q ∧ q ≤ 9223372036854775807) ∧ (-9223372036854775808 ≤ k ∧ k ≤ 9223372036854775807)
theorem Asks2.below {w w' : World} {A : Option Addr} {n : Nat} (h : Asks2 w A n) (hb : Below w.heap.size w w') : Asks2 w' A n := fun i hi => by
  obtain ⟨b, o, x, y, p, q, k, h1, h2, h3, h4, h5, h6, h7, h8⟩ := h i hi
  exact ⟨b, o, x, y, p, q, k, h1, Nat.lt_of_lt_of_le h2 hb.size, (hb.cell h2).trans h3, (hb.cell h2).trans h4, (hb.cell h2).trans h5, (hb.cell h2).trans h6, (hb.cell h2).trans h7, h8⟩
theorem wake_len : vlen 196608 262144 = 327680 := by decide +kernel
end Go.Proofs.Ytjbnpgjndohjcaa
