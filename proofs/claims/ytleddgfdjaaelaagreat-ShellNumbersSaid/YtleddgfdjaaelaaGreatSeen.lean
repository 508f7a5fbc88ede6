/- The run of ShellNumbers. Conditions: none. -/
import Derived.Test.YtleddgfdjaaelaaGreatOracle
namespace Go.Proofs.YtleddgfdjaaelaaGreat
open Go.Abs

set_option maxRecDepth 100000000 in
theorem numbers_seen : isTrue (run orc 64 3 [] bare) = true := by kernel_rfl

end Go.Proofs.YtleddgfdjaaelaaGreat
