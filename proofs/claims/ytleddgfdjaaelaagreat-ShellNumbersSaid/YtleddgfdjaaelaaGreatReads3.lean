/- law28.reads says true of the first bytes of what ShellNumbers writes, at these lengths. Conditions: none. -/
import Derived.Test.YtleddgfdjaaelaaGreatAbsLent
namespace Go.Proofs.YtleddgfdjaaelaaGreat
open Go.Abs

set_option maxRecDepth 100000000 in
theorem reads4 : readsAt 4 = true := by kernel_rfl
set_option maxRecDepth 100000000 in
theorem reads13 : readsAt 13 = true := by kernel_rfl
set_option maxRecDepth 100000000 in
theorem reads20 : readsAt 20 = true := by kernel_rfl
set_option maxRecDepth 100000000 in
theorem reads29 : readsAt 29 = true := by kernel_rfl
set_option maxRecDepth 100000000 in
theorem reads36 : readsAt 36 = true := by kernel_rfl
set_option maxRecDepth 100000000 in
theorem reads45 : readsAt 45 = true := by kernel_rfl
set_option maxRecDepth 100000000 in
theorem reads52 : readsAt 52 = true := by kernel_rfl
set_option maxRecDepth 100000000 in
theorem reads61 : readsAt 61 = true := by kernel_rfl
set_option maxRecDepth 100000000 in
theorem reads68 : readsAt 68 = true := by kernel_rfl
set_option maxRecDepth 100000000 in
theorem reads77 : readsAt 77 = true := by kernel_rfl
set_option maxRecDepth 100000000 in
theorem reads84 : readsAt 84 = true := by kernel_rfl
set_option maxRecDepth 100000000 in
theorem reads93 : readsAt 93 = true := by kernel_rfl
set_option maxRecDepth 100000000 in
theorem reads100 : readsAt 100 = true := by kernel_rfl
set_option maxRecDepth 100000000 in
theorem reads109 : readsAt 109 = true := by kernel_rfl
set_option maxRecDepth 100000000 in
theorem reads116 : readsAt 116 = true := by kernel_rfl
set_option maxRecDepth 100000000 in
theorem reads125 : readsAt 125 = true := by kernel_rfl

end Go.Proofs.YtleddgfdjaaelaaGreat
