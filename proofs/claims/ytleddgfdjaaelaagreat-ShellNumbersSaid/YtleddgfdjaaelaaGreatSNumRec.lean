/- A closed fact of the row of SNum: Rec. Conditions: none. -/
import Derived.Test.YtleddgfdjaaelaaGreatRows
import Derived.JoinedOf
namespace Go.Proofs.YtleddgfdjaaelaaGreat
set_option maxRecDepth 100000
theorem snum_rec : (Rows.shellNumbersRow.recurses == Tryz.pinned.checked.prog.recurses 3) = true := by kernel_rfl
end Go.Proofs.YtleddgfdjaaelaaGreat
