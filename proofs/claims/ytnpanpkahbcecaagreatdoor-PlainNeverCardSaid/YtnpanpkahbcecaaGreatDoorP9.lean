/-
Walk of the reference's Cut, of a number that is not below 0, downward.
-/
import Derived.Test.YtnpanpkahbcecaaGreatDoorP5
import Derived.Lib.Hide
set_option linter.unusedVariables false
set_option linter.unusedSimpArgs false
namespace Go.Proofs.YtnpanpkahbcecaaGreatDoor
section
open Go.RowKit
end
section
open Go.RowKit
def One (w0 : World) (g0 : Nat) (s0 : Bool) (A0 : Option Addr) (n0 c0 : Nat) (e0 : Int) (g2 : Nat) (w : World) : Prop :=
 Cells3 w g0 s0 A0 n0 c0 e0 /\ Below w0.heap.size w0 w /\ g0 < w.heap.size /\ Shape w g2
section
variable {w0 : World} {g0 : Nat} {s0 : Bool} {A0 : Option Addr} {n0 c0 : Nat} {e0 : Int} {g2 : Nat} {w : World}
end
end
end Go.Proofs.YtnpanpkahbcecaaGreatDoor
