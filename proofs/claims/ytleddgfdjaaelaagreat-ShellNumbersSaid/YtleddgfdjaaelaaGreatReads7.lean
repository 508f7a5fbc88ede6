/- law28.reads says true of the first bytes of what ShellNumbers writes, at these lengths. Conditions: none. -/
import Derived.Test.YtleddgfdjaaelaaGreatAbsLent
namespace Go.Proofs.YtleddgfdjaaelaaGreat
open Go.Abs

set_option maxRecDepth 100000000 in
theorem reads8 : readsAt 8 = true := by kernel_rfl
set_option maxRecDepth 100000000 in
theorem reads9 : readsAt 9 = true := by kernel_rfl
set_option maxRecDepth 100000000 in
theorem reads24 : readsAt 24 = true := by kernel_rfl
set_option maxRecDepth 100000000 in
theorem reads25 : readsAt 25 = true := by kernel_rfl
set_option maxRecDepth 100000000 in
theorem reads40 : readsAt 40 = true := by kernel_rfl
set_option maxRecDepth 100000000 in
theorem reads41 : readsAt 41 = true := by kernel_rfl
set_option maxRecDepth 100000000 in
theorem reads56 : readsAt 56 = true := by kernel_rfl
set_option maxRecDepth 100000000 in
theorem reads57 : readsAt 57 = true := by kernel_rfl
set_option maxRecDepth 100000000 in
theorem reads72 : readsAt 72 = true := by kernel_rfl
set_option maxRecDepth 100000000 in
theorem reads73 : readsAt 73 = true := by kernel_rfl
set_option maxRecDepth 100000000 in
theorem reads88 : readsAt 88 = true := by kernel_rfl
set_option maxRecDepth 100000000 in
theorem reads89 : readsAt 89 = true := by kernel_rfl
set_option maxRecDepth 100000000 in
theorem reads104 : readsAt 104 = true := by kernel_rfl
set_option maxRecDepth 100000000 in
theorem reads105 : readsAt 105 = true := by kernel_rfl
set_option maxRecDepth 100000000 in
theorem reads120 : readsAt 120 = true := by kernel_rfl
set_option maxRecDepth 100000000 in
theorem reads121 : readsAt 121 = true := by kernel_rfl

end Go.Proofs.YtleddgfdjaaelaaGreat
