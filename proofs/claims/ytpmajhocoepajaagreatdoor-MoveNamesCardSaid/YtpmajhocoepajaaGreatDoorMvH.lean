/- The second great call that MoveNames makes, evaluated. -/
import Derived.Test.YtpmajhocoepajaaGreatDoorMvT
import Derived.KernelRfl
set_option maxRecDepth 100000
namespace Go.Am
theorem f17b : isV (.int .i64 (.ofNat 3)) (deepT tab 60 17 [.int .i64 (.ofNat 3)] (Heap.blank 8) kEnd) = true := by kernel_rfl
end Go.Am
