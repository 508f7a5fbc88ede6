/- A closed fact of the row of SNum: InPlace. Conditions: none. -/
import Derived.Test.YtleddgfdjaaelaaGreatRows
import Derived.JoinedOf
namespace Go.Proofs.YtleddgfdjaaelaaGreat
set_option maxRecDepth 100000
theorem snum_inplace : (Rows.shellNumbersRow.inPlace == Tryz.pinned.checked.prog.inPlace 3) = true := by kernel_rfl
end Go.Proofs.YtleddgfdjaaelaaGreat
