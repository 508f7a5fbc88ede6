/- law28.reads says true of the first bytes of what ShellNumbers writes, at these lengths. Conditions: none. -/
import Derived.Test.YtleddgfdjaaelaaGreatAbsLent
namespace Go.Proofs.YtleddgfdjaaelaaGreat
open Go.Abs

set_option maxRecDepth 100000000 in
theorem reads6 : readsAt 6 = true := by kernel_rfl
set_option maxRecDepth 100000000 in
theorem reads11 : readsAt 11 = true := by kernel_rfl
set_option maxRecDepth 100000000 in
theorem reads22 : readsAt 22 = true := by kernel_rfl
set_option maxRecDepth 100000000 in
theorem reads27 : readsAt 27 = true := by kernel_rfl
set_option maxRecDepth 100000000 in
theorem reads38 : readsAt 38 = true := by kernel_rfl
set_option maxRecDepth 100000000 in
theorem reads43 : readsAt 43 = true := by kernel_rfl
set_option maxRecDepth 100000000 in
theorem reads54 : readsAt 54 = true := by kernel_rfl
set_option maxRecDepth 100000000 in
theorem reads59 : readsAt 59 = true := by kernel_rfl
set_option maxRecDepth 100000000 in
theorem reads70 : readsAt 70 = true := by kernel_rfl
set_option maxRecDepth 100000000 in
theorem reads75 : readsAt 75 = true := by kernel_rfl
set_option maxRecDepth 100000000 in
theorem reads86 : readsAt 86 = true := by kernel_rfl
set_option maxRecDepth 100000000 in
theorem reads91 : readsAt 91 = true := by kernel_rfl
set_option maxRecDepth 100000000 in
theorem reads102 : readsAt 102 = true := by kernel_rfl
set_option maxRecDepth 100000000 in
theorem reads107 : readsAt 107 = true := by kernel_rfl
set_option maxRecDepth 100000000 in
theorem reads118 : readsAt 118 = true := by kernel_rfl
set_option maxRecDepth 100000000 in
theorem reads123 : readsAt 123 = true := by kernel_rfl

end Go.Proofs.YtleddgfdjaaelaaGreat
