/- law28.reads says true of the first bytes of what ShellNumbers writes, at these lengths. Conditions: none. -/
import Derived.Test.YtleddgfdjaaelaaGreatAbsLent
namespace Go.Proofs.YtleddgfdjaaelaaGreat
open Go.Abs

set_option maxRecDepth 100000000 in
theorem reads5 : readsAt 5 = true := by kernel_rfl
set_option maxRecDepth 100000000 in
theorem reads12 : readsAt 12 = true := by kernel_rfl
set_option maxRecDepth 100000000 in
theorem reads21 : readsAt 21 = true := by kernel_rfl
set_option maxRecDepth 100000000 in
theorem reads28 : readsAt 28 = true := by kernel_rfl
set_option maxRecDepth 100000000 in
theorem reads37 : readsAt 37 = true := by kernel_rfl
set_option maxRecDepth 100000000 in
theorem reads44 : readsAt 44 = true := by kernel_rfl
set_option maxRecDepth 100000000 in
theorem reads53 : readsAt 53 = true := by kernel_rfl
set_option maxRecDepth 100000000 in
theorem reads60 : readsAt 60 = true := by kernel_rfl
set_option maxRecDepth 100000000 in
theorem reads69 : readsAt 69 = true := by kernel_rfl
set_option maxRecDepth 100000000 in
theorem reads76 : readsAt 76 = true := by kernel_rfl
set_option maxRecDepth 100000000 in
theorem reads85 : readsAt 85 = true := by kernel_rfl
set_option maxRecDepth 100000000 in
theorem reads92 : readsAt 92 = true := by kernel_rfl
set_option maxRecDepth 100000000 in
theorem reads101 : readsAt 101 = true := by kernel_rfl
set_option maxRecDepth 100000000 in
theorem reads108 : readsAt 108 = true := by kernel_rfl
set_option maxRecDepth 100000000 in
theorem reads117 : readsAt 117 = true := by kernel_rfl
set_option maxRecDepth 100000000 in
theorem reads124 : readsAt 124 = true := by kernel_rfl

end Go.Proofs.YtleddgfdjaaelaaGreat
