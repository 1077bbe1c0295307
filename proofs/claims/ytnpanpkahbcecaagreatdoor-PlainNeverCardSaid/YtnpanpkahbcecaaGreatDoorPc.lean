/-
Closed facts of PlainNever's row: what the program's text says of it.
-/
import Derived.Test.YtnpanpkahbcecaaGreatDoorCards
import Derived.Test.YtnpanpkahbcecaaGreatDoorTie
import Derived.WalkKit
import Derived.ProofKit
import Derived.OpenShut
import Derived.Laws.Cover2
import Derived.Deep.DeepHandedRow
import Derived.Lib.LaidTab
import Derived.Lib.Hide
set_option linter.unusedVariables false
set_option linter.unusedSimpArgs false
namespace Go.Proofs.YtnpanpkahbcecaaGreatDoor
section
open Go.ChangeShapes Go.WideShapes Go.ChangeAt Go.RowKit
namespace plainNever
theorem namedF : Tryz.pinned.checked.prog.funcNamed Rows.plainNeverRow.func = some 4:=by kernel_rfl
theorem closedF : joinedFacts Tryz.pinned.checked.prog 4 Tryz.f4 (OpenSpec.ofChange Rows.plainNeverSpec).bare Rows.plainNeverRow = true:=by kernel_rfl
theorem instF : Tryz.f4.isInstance Tryz.pinned.checked.prog Rows.plainNeverRow.origin Rows.plainNeverRow.targs:=of_decide_eq_true (by kernel_rfl)
end plainNever
end
end Go.Proofs.YtnpanpkahbcecaaGreatDoor
