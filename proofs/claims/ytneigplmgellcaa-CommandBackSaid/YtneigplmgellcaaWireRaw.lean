/- wire.Raw, wire.GetRaw, the page's own; copies; answers written over. -/
import Derived.Test.YtneigplmgellcaaRows
import Derived.Test.YtneigplmgellcaaWireNum
namespace Go.Proofs.Ytneigplmgellcaa
set_option maxRecDepth 20000
open Go.RowKit

theorem nums_one (k : IntKind) (l : List Int) : ∀ u ∈ nums k l, u.oneCell' = true := by
  intro u hu
  obtain ⟨x, _, rfl⟩ := List.mem_map.1 hu
  rfl
theorem own_empty (w : World) (e : TypeId) : (w.alloc (.cells #[] e)).ownsRow w.heap.size e 1 (.slice (some ⟨w.heap.size, 0, none⟩) 0 0) 0 [] :=
  ⟨by simp, .inr ⟨w.heap.size, 0, #[], rfl, Nat.le_refl _, heap_alloc_new w _, Nat.le_refl _, Nat.zero_le _, by simp, by simp⟩⟩

/-- 'wire.Raw': bytes with their number ahead. -/
def rawR (l : List Int) : List Int × Int := if 1048576 < l.length then ([], 2) else (put l.length ++ l, 0)
/-- What 'GetRaw' finds: the bytes, how many were read, the error. -/
def getRawR (l : List Int) : List Int × Int × Int :=
  if (get 0 0 l).2.2 ≠ 0 then ([], 0, (get 0 0 l).2.2)
  else if 1048576 < (get 0 0 l).1 then ([], 0, 1)
  else if (l.length : Int) - (get 0 0 l).2.1 < (get 0 0 l).1 then ([], 0, 11)
  else ((l.drop (get 0 0 l).2.1.toNat).take (get 0 0 l).1.toNat, (get 0 0 l).2.1 + (get 0 0 l).1, 0)
/-- Bytes of the call's own, two numbers. -/
def GivesRaw (base : Nat) (w : World) (r : List Int × Int × Int) (e : Ending) (w' : World) : Prop :=
  ∃ A c, e = .returned (.tuple #[.slice A r.1.length c, .int .i64 r.2.1, .int .i64 r.2.2]) ∧ w'.ownsRow base 5 1 (.slice A r.1.length c) r.1.length (nums .u8 r.1) ∧ Below base w w'

end Go.Proofs.Ytneigplmgellcaa
