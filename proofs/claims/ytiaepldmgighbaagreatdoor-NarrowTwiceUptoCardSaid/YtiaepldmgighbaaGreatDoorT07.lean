import Derived.LaidSub
import Derived.SizedLaws
import Derived.Test.YtiaepldmgighbaaGreatDoorT06
import Derived.Test.YtiaepldmgighbaaGreatDoorT03
namespace Go.Proofs.YtiaepldmgighbaaGreatDoor
open Go.ChangeShapes Go.WideShapes Go.ChangeAt Go.RowKit
set_option linter.unusedVariables false
set_option maxRecDepth 100000
theorem jnr : Tryz.prog.cellsOf 3 = 1:=by kernel_rfl
theorem jnq : Tryz.prog.cellsOf 9 = 1:=by kernel_rfl
theorem cellsB : Tryz.prog.cellsOf 4 = 1:=by kernel_rfl
section
variable {H : Type} {enc : TypeId × Value → H}
end
end Go.Proofs.YtiaepldmgighbaaGreatDoor
