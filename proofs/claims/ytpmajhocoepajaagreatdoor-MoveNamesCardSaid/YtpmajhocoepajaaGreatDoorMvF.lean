/- The calls that MoveNames makes, evaluated. -/
import Derived.Test.YtpmajhocoepajaaGreatDoorMvT
import Derived.KernelRfl
set_option maxRecDepth 100000
namespace Go.Am
theorem f4 : isV (.bool true) (deepT tab 60 4 [] (Heap.blank 8) kEnd) = true := by kernel_rfl
theorem f13 : isV (.bool true) (deepT tab 60 13 [] (Heap.blank 8) kEnd) = true := by kernel_rfl
theorem f14 : isV (.bool true) (deepT tab 60 14 [] (Heap.blank 8) kEnd) = true := by kernel_rfl
theorem f15 : isV (.bool true) (deepT tab 60 15 [] (Heap.blank 8) kEnd) = true := by kernel_rfl
theorem f16 : isV (.bool true) (deepT tab 60 16 [] (Heap.blank 8) kEnd) = true := by kernel_rfl
/-- what is known of calls -/
noncomputable def known : List (Nat × List AVal × AVal) := [(4, [], .bool true), (13, [], .bool true), (14, [], .bool true), (15, [], .bool true), (16, [], .bool true), (17, [.int .i64 (.ofNat 2)], .int .i64 (.ofNat 0)), (17, [.int .i64 (.ofNat 3)], .int .i64 (.ofNat 3))]
theorem f3 : isV (.bool true) (tab (sumT (look known) (deepT tab 60)) 3 [] (Heap.blank 8) kEnd) = true := by kernel_rfl
end Go.Am
