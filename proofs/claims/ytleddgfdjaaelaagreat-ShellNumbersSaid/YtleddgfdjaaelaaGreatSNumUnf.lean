/- A closed fact of the row of SNum: Unf. Conditions: none. -/
import Derived.Test.YtleddgfdjaaelaaGreatRows
import Derived.JoinedOf
namespace Go.Proofs.YtleddgfdjaaelaaGreat
set_option maxRecDepth 100000
theorem snum_unf : (Rows.shellNumbersRow.unfollowed == Tryz.pinned.checked.prog.unfollowed 3) = true := by kernel_rfl
end Go.Proofs.YtleddgfdjaaelaaGreat
