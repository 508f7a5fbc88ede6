/- law28.reads says true of the first bytes of what ShellNumbers writes, at these lengths. Conditions: none. -/
import Derived.Test.YtleddgfdjaaelaaGreatAbsLent
namespace Go.Proofs.YtleddgfdjaaelaaGreat
open Go.Abs

set_option maxRecDepth 100000000 in
theorem reads0 : readsAt 0 = true := by kernel_rfl
set_option maxRecDepth 100000000 in
theorem reads1 : readsAt 1 = true := by kernel_rfl
set_option maxRecDepth 100000000 in
theorem reads16 : readsAt 16 = true := by kernel_rfl
set_option maxRecDepth 100000000 in
theorem reads17 : readsAt 17 = true := by kernel_rfl
set_option maxRecDepth 100000000 in
theorem reads32 : readsAt 32 = true := by kernel_rfl
set_option maxRecDepth 100000000 in
theorem reads33 : readsAt 33 = true := by kernel_rfl
set_option maxRecDepth 100000000 in
theorem reads48 : readsAt 48 = true := by kernel_rfl
set_option maxRecDepth 100000000 in
theorem reads49 : readsAt 49 = true := by kernel_rfl
set_option maxRecDepth 100000000 in
theorem reads64 : readsAt 64 = true := by kernel_rfl
set_option maxRecDepth 100000000 in
theorem reads65 : readsAt 65 = true := by kernel_rfl
set_option maxRecDepth 100000000 in
theorem reads80 : readsAt 80 = true := by kernel_rfl
set_option maxRecDepth 100000000 in
theorem reads81 : readsAt 81 = true := by kernel_rfl
set_option maxRecDepth 100000000 in
theorem reads96 : readsAt 96 = true := by kernel_rfl
set_option maxRecDepth 100000000 in
theorem reads97 : readsAt 97 = true := by kernel_rfl
set_option maxRecDepth 100000000 in
theorem reads112 : readsAt 112 = true := by kernel_rfl
set_option maxRecDepth 100000000 in
theorem reads113 : readsAt 113 = true := by kernel_rfl
set_option maxRecDepth 100000000 in
theorem reads128 : readsAt 128 = true := by kernel_rfl

end Go.Proofs.YtleddgfdjaaelaaGreat
