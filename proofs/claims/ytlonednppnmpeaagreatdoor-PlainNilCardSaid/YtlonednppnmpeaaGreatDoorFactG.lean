/- PH: a part of the walk: contracts of functions that the law reaches. -/
import Derived.Test.YtlonednppnmpeaaGreatDoorRows
import Derived.JoinedOf
import Derived.KernelRfl
set_option linter.all false
/- Closed facts of the row, reckoned by the kernel: the great ones in modules of their own (together they pass the memory bound). -/
set_option linter.all false
namespace Go.Proofs.YtlonednppnmpeaaGreatDoor
namespace plainNil
open Go
theorem k25 : (Tryz.pinned.checked.prog.mayEnter) = true := by kernel_rfl
theorem k22 : ((Rows.plainNilRow.plainKeys == Tryz.pinned.checked.prog.plainKeys)) = true := by kernel_rfl
end plainNil
end Go.Proofs.YtlonednppnmpeaaGreatDoor
