/- law28.reads says true of the first bytes of what ShellNumbers writes, at these lengths. Conditions: none. -/
import Derived.Test.YtleddgfdjaaelaaGreatAbsLent
namespace Go.Proofs.YtleddgfdjaaelaaGreat
open Go.Abs

set_option maxRecDepth 100000000 in
theorem reads2 : readsAt 2 = true := by kernel_rfl
set_option maxRecDepth 100000000 in
theorem reads15 : readsAt 15 = true := by kernel_rfl
set_option maxRecDepth 100000000 in
theorem reads18 : readsAt 18 = true := by kernel_rfl
set_option maxRecDepth 100000000 in
theorem reads31 : readsAt 31 = true := by kernel_rfl
set_option maxRecDepth 100000000 in
theorem reads34 : readsAt 34 = true := by kernel_rfl
set_option maxRecDepth 100000000 in
theorem reads47 : readsAt 47 = true := by kernel_rfl
set_option maxRecDepth 100000000 in
theorem reads50 : readsAt 50 = true := by kernel_rfl
set_option maxRecDepth 100000000 in
theorem reads63 : readsAt 63 = true := by kernel_rfl
set_option maxRecDepth 100000000 in
theorem reads66 : readsAt 66 = true := by kernel_rfl
set_option maxRecDepth 100000000 in
theorem reads79 : readsAt 79 = true := by kernel_rfl
set_option maxRecDepth 100000000 in
theorem reads82 : readsAt 82 = true := by kernel_rfl
set_option maxRecDepth 100000000 in
theorem reads95 : readsAt 95 = true := by kernel_rfl
set_option maxRecDepth 100000000 in
theorem reads98 : readsAt 98 = true := by kernel_rfl
set_option maxRecDepth 100000000 in
theorem reads111 : readsAt 111 = true := by kernel_rfl
set_option maxRecDepth 100000000 in
theorem reads114 : readsAt 114 = true := by kernel_rfl
set_option maxRecDepth 100000000 in
theorem reads127 : readsAt 127 = true := by kernel_rfl

end Go.Proofs.YtleddgfdjaaelaaGreat
