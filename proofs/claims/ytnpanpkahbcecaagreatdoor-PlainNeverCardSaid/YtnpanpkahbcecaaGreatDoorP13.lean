/-
Walk: rosetteref00.Whole.
-/
import Derived.Test.YtnpanpkahbcecaaGreatDoorP11
import Derived.Lib.Hide
set_option linter.unusedVariables false
set_option linter.unusedSimpArgs false
namespace Go.Proofs.YtnpanpkahbcecaaGreatDoor
section
namespace Nt
theorem bits_range (N : Nat) (h : N ≠ 0) : 0 < bitsN N /\ 2 ^ (bitsN N - 1) <= N /\ N < 2 ^ bitsN N:=by
 unfold bitsN
 rw [if_neg h]
 exact ⟨by omega,by rw [Nat.add_sub_cancel]; exact Nat.log2_self_le h,Nat.lt_log2_self⟩
end Nt
end
section
open Go.RowKit
end
end Go.Proofs.YtnpanpkahbcecaaGreatDoor
