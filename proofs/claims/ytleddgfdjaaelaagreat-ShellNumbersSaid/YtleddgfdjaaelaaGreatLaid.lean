/- A closed fact of the program: its layout. Conditions: none. -/
import Derived.Test.YtleddgfdjaaelaaGreatRows
import Derived.JoinedOf
namespace Go.Proofs.YtleddgfdjaaelaaGreat
set_option maxRecDepth 100000
theorem laid_ok : laidOutB Tryz.pinned.checked.prog = true := by kernel_rfl
end Go.Proofs.YtleddgfdjaaelaaGreat
