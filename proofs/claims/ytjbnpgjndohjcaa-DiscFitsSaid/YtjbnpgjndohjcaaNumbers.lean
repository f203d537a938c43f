/- The statements' small helpers on numbers: copies, comparisons, answers written over. -/
import Derived.Test.YtjbnpgjndohjcaaRows
import Derived.Test.YtjbnpgjndohjcaaBytes
import Derived.Test.YtjbnpgjndohjcaaMem
namespace Go.Proofs.Ytjbnpgjndohjcaa
set_option maxRecDepth 20000
open Go.RowKit

theorem info_int : (Try.prog.info? 3).map (fun i => (i.zero, i.size, i.bytes)) = some (some (.int .i64 0), 1, 8) := by kernel_rfl

end Go.Proofs.Ytjbnpgjndohjcaa
