/- The closed facts of the row of SNum, joined. Conditions: none. -/
import Derived.Test.YtleddgfdjaaelaaGreatSNumInPlace
import Derived.Test.YtleddgfdjaaelaaGreatSNumUnf
import Derived.Test.YtleddgfdjaaelaaGreatSNumRec
import Derived.Test.YtleddgfdjaaelaaGreatSNumNamed
import Derived.Test.YtleddgfdjaaelaaGreatLaid
namespace Go.Proofs.YtleddgfdjaaelaaGreat
set_option maxRecDepth 100000
theorem and_of {a b : Bool} (h : a = true) (h2 : b = true) : (a && b) = true := by rw [h, h2]; rfl
theorem snum_facts : joinedFacts Tryz.pinned.checked.prog 3 Tryz.f3 Rows.shellNumbersSpec Rows.shellNumbersRow = true := by
  unfold joinedFacts
  exact (and_of (and_of (and_of (and_of (and_of (and_of (and_of (and_of (and_of (and_of (and_of (and_of (and_of (and_of (and_of (and_of (and_of (and_of (and_of (and_of (and_of (and_of (and_of (and_of (and_of (and_of (and_of (and_of (and_of (and_of (and_of (by kernel_rfl) laid_ok) (by kernel_rfl)) (by kernel_rfl)) (by kernel_rfl)) (by kernel_rfl)) (by kernel_rfl)) (by kernel_rfl)) (by kernel_rfl)) snum_inplace) snum_unf) snum_rec) snum_named) (by kernel_rfl)) (by kernel_rfl)) (by kernel_rfl)) (by kernel_rfl)) (by kernel_rfl)) (by kernel_rfl)) (by kernel_rfl)) (by kernel_rfl)) (by kernel_rfl)) (by kernel_rfl)) (by kernel_rfl)) (by kernel_rfl)) (by kernel_rfl)) (by kernel_rfl)) (by kernel_rfl)) (by kernel_rfl)) (by kernel_rfl)) (by kernel_rfl)) (by kernel_rfl))
end Go.Proofs.YtleddgfdjaaelaaGreat
