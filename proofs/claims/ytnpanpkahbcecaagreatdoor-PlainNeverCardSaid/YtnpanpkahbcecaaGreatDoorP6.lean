/-
Add64 and Sub64: what they tell.
-/
import Derived.Test.YtnpanpkahbcecaaGreatDoorP3
import Derived.Lib.Hide
set_option linter.unusedVariables false
set_option linter.unusedSimpArgs false
namespace Go.Proofs.YtnpanpkahbcecaaGreatDoor
section
open Go.RowKit
def exAdd : Array Value -> Sem Value:=(Extern.MathBitsCarry.rows[0]'(by decide)).2
def exSub : Array Value -> Sem Value:=(Extern.MathBitsCarry.rows[1]'(by decide)).2
theorem run_add64 (x y : Int) (c : Nat) (hc : c <= 1) (w : World) : (callFunc 114 #[.int .u64 x,.int .u64 y,.int .u64 c]).run Tryz.prog w = .ok (.value (.tuple #[.int .u64 (((x.toNat + y.toNat + c) % 18446744073709551616 : Nat) : Int),.int .u64 (((x.toNat + y.toNat + c) / 18446744073709551616 : Nat) : Int)])) w:=by
 rw [run_callFunc_extern (e:=exAdd) Tryz.func114 (by kernel_rfl) (by kernel_rfl) (by kernel_rfl) (by kernel_rfl)]
 rcases (by omega : c = 0 \/ c = 1) with rfl | rfl <;> rfl
theorem run_sub64 (x y : Int) (c : Nat) (hc : c <= 1) (w : World) : (callFunc 115 #[.int .u64 x,.int .u64 y,.int .u64 c]).run Tryz.prog w = .ok (.value (.tuple #[.int .u64 (((x.toNat + 18446744073709551616 - y.toNat - c) % 18446744073709551616 : Nat) : Int),.int .u64 (((if x.toNat < y.toNat + c then 1 else 0 : Nat)) : Int)])) w:=by
 rw [run_callFunc_extern (e:=exSub) Tryz.func115 (by kernel_rfl) (by kernel_rfl) (by kernel_rfl) (by kernel_rfl)]
 rcases (by omega : c = 0 \/ c = 1) with rfl | rfl <;> rfl
end
end Go.Proofs.YtnpanpkahbcecaaGreatDoor
