/-
Walk: Num by value: Compare.
-/
import Derived.Test.YtnpanpkahbcecaaGreatDoorP9
import Derived.Lib.Hide
set_option linter.unusedVariables false
set_option linter.unusedSimpArgs false
namespace Go.Proofs.YtnpanpkahbcecaaGreatDoor
end Go.Proofs.YtnpanpkahbcecaaGreatDoor
namespace Go.Proofs.YtnpanpkahbcecaaGreatDoor
open Go.RowKit
end Go.Proofs.YtnpanpkahbcecaaGreatDoor
namespace Go.Proofs.YtnpanpkahbcecaaGreatDoor
open Go.RowKit
section
variable {w0 : World} {g0 : Nat} {s0 : Bool} {A0 : Option Addr} {n0 c0 : Nat} {e0 : Int} {g1 : Nat} {s1 : Bool} {A1 : Option Addr} {n1 c1 : Nat} {e1 : Int} {w : World}
end
end Go.Proofs.YtnpanpkahbcecaaGreatDoor
namespace Go.Proofs.YtnpanpkahbcecaaGreatDoor
section
open Go.RowKit
end
end Go.Proofs.YtnpanpkahbcecaaGreatDoor
