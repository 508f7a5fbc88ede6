/- law28.reads says true of the first bytes of what ShellNumbers writes, at these lengths. Conditions: none. -/
import Derived.Test.YtleddgfdjaaelaaGreatAbsLent
namespace Go.Proofs.YtleddgfdjaaelaaGreat
open Go.Abs

set_option maxRecDepth 100000000 in
theorem reads3 : readsAt 3 = true := by kernel_rfl
set_option maxRecDepth 100000000 in
theorem reads14 : readsAt 14 = true := by kernel_rfl
set_option maxRecDepth 100000000 in
theorem reads19 : readsAt 19 = true := by kernel_rfl
set_option maxRecDepth 100000000 in
theorem reads30 : readsAt 30 = true := by kernel_rfl
set_option maxRecDepth 100000000 in
theorem reads35 : readsAt 35 = true := by kernel_rfl
set_option maxRecDepth 100000000 in
theorem reads46 : readsAt 46 = true := by kernel_rfl
set_option maxRecDepth 100000000 in
theorem reads51 : readsAt 51 = true := by kernel_rfl
set_option maxRecDepth 100000000 in
theorem reads62 : readsAt 62 = true := by kernel_rfl
set_option maxRecDepth 100000000 in
theorem reads67 : readsAt 67 = true := by kernel_rfl
set_option maxRecDepth 100000000 in
theorem reads78 : readsAt 78 = true := by kernel_rfl
set_option maxRecDepth 100000000 in
theorem reads83 : readsAt 83 = true := by kernel_rfl
set_option maxRecDepth 100000000 in
theorem reads94 : readsAt 94 = true := by kernel_rfl
set_option maxRecDepth 100000000 in
theorem reads99 : readsAt 99 = true := by kernel_rfl
set_option maxRecDepth 100000000 in
theorem reads110 : readsAt 110 = true := by kernel_rfl
set_option maxRecDepth 100000000 in
theorem reads115 : readsAt 115 = true := by kernel_rfl
set_option maxRecDepth 100000000 in
theorem reads126 : readsAt 126 = true := by kernel_rfl

end Go.Proofs.YtleddgfdjaaelaaGreat
