/- law28.reads says true of the first bytes of what ShellNumbers writes, at these lengths. Conditions: none. -/
import Derived.Test.YtleddgfdjaaelaaGreatAbsLent
namespace Go.Proofs.YtleddgfdjaaelaaGreat
open Go.Abs

set_option maxRecDepth 100000000 in
theorem reads7 : readsAt 7 = true := by kernel_rfl
set_option maxRecDepth 100000000 in
theorem reads10 : readsAt 10 = true := by kernel_rfl
set_option maxRecDepth 100000000 in
theorem reads23 : readsAt 23 = true := by kernel_rfl
set_option maxRecDepth 100000000 in
theorem reads26 : readsAt 26 = true := by kernel_rfl
set_option maxRecDepth 100000000 in
theorem reads39 : readsAt 39 = true := by kernel_rfl
set_option maxRecDepth 100000000 in
theorem reads42 : readsAt 42 = true := by kernel_rfl
set_option maxRecDepth 100000000 in
theorem reads55 : readsAt 55 = true := by kernel_rfl
set_option maxRecDepth 100000000 in
theorem reads58 : readsAt 58 = true := by kernel_rfl
set_option maxRecDepth 100000000 in
theorem reads71 : readsAt 71 = true := by kernel_rfl
set_option maxRecDepth 100000000 in
theorem reads74 : readsAt 74 = true := by kernel_rfl
set_option maxRecDepth 100000000 in
theorem reads87 : readsAt 87 = true := by kernel_rfl
set_option maxRecDepth 100000000 in
theorem reads90 : readsAt 90 = true := by kernel_rfl
set_option maxRecDepth 100000000 in
theorem reads103 : readsAt 103 = true := by kernel_rfl
set_option maxRecDepth 100000000 in
theorem reads106 : readsAt 106 = true := by kernel_rfl
set_option maxRecDepth 100000000 in
theorem reads119 : readsAt 119 = true := by kernel_rfl
set_option maxRecDepth 100000000 in
theorem reads122 : readsAt 122 = true := by kernel_rfl

end Go.Proofs.YtleddgfdjaaelaaGreat
