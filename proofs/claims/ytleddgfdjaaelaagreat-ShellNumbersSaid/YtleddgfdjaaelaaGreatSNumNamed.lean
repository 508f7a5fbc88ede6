/- A closed fact of the row of SNum: Named. Conditions: none. -/
import Derived.Test.YtleddgfdjaaelaaGreatRows
import Derived.JoinedOf
namespace Go.Proofs.YtleddgfdjaaelaaGreat
set_option maxRecDepth 100000
theorem snum_named : (Rows.shellNumbersRow.named == Tryz.pinned.checked.prog.varsNamed 3) = true := by kernel_rfl
end Go.Proofs.YtleddgfdjaaelaaGreat
