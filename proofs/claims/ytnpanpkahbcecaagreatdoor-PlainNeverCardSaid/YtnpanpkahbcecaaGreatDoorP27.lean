/-
Plain facts: what Add, Mul and Div tell with all signs turned, and in the other order; one way tells Go's own.
-/
import Derived.Test.YtnpanpkahbcecaaGreatDoorP26
import Derived.Lib.Hide
set_option linter.unusedVariables false
set_option linter.unusedSimpArgs false
namespace Go.Proofs.YtnpanpkahbcecaaGreatDoor
section
namespace Fl
open Ieee
theorem norm_up (r : Nat) (h0 : 0 < r) : ∃ c : Nat,c <= 52 /\ nM r = mant r * 2 ^ c /\ nE r = (ex r : Nat) - (c : Int) /\ (mant r).log2 + c = 52 /\ mant r ≠ 0:=by
 unfold nM nE
 by_cases h : r < B
 ·rw [if_pos h,if_pos h]
  obtain ⟨e1,e2⟩:=small_rung r h
  have hl:=log2_B r h0 h
  rw [e1,e2]
  exact ⟨52 - r.log2,by omega,rfl,by omega,by omega,by omega⟩
 ·rw [if_neg h,if_neg h]
  have m1 : 2 ^ 52 <= mant r:=by rw [<- B_eq]; unfold mant ex B at *; omega
  have m2 : mant r < 2 ^ 53:=by have:=mant_lt r; rw [B_eq] at this; omega
  have m0 : mant r ≠ 0:=by omega
  have l1:=(Nat.le_log2 m0).2 m1
  have l2:=(Nat.log2_lt m0).2 m2
  exact ⟨0,by omega,by simp,by omega,by omega,m0⟩
def stick (D N : Nat) : Nat:=2 * (D / N) + (D % N != 0).toNat
theorem stick_scale (D N c : Nat) (hc : 0 < c) : stick (D * c) (N * c) = stick D N:=by
 unfold stick
 rw [Nat.mul_div_mul_right _ _ hc,Nat.mul_mod_mul_right]
 congr 2
 by_cases h : D % N = 0
 ·rw [h]; simp
 ·have : D % N * c ≠ 0:=Nat.mul_ne_zero h (by omega)
  rw [bne_iff_ne.2 h,bne_iff_ne.2 this]
def dM (a b : Nat) : Nat:=stick (nM (rg a) * 2 ^ 54) (nM (rg b))
def pD (a b : Nat) : Int:=nE (rg a) - nE (rg b) - 55
def nearQ (a b : Nat) : Nat:=double.nearest (sg a ^^ sg b) (dM a b) (pD a b)
theorem div_near (a b : Nat) (fa : rg a < I) (fb : rg b < I) (a0 : 0 < rg a) (b0 : 0 < rg b) : double.div a b = some (nearQ a b):=by
 obtain ⟨c,c1,c2,c3,c4,c5⟩:=norm_up (rg a) a0
 obtain ⟨k,k1,k2,k3,k4,k5⟩:=norm_up (rg b) b0
 unfold Format.div
 rw [read_fin a fa,read_fin b fb,dF]
 unfold Datum.quotient
 dsimp only
 rw [if_neg k5]
 simp only [Option.map_some,Format.write]
 have hmore : 52 + 2 + (mant (rg b)).log2 - (mant (rg a)).log2 = 54 - k + c:=by omega
 rw [hmore,Nat.shiftLeft_eq]
 have hmag : 2 * (mant (rg a) * 2 ^ (54 - k + c) / mant (rg b)) + (mant (rg a) * 2 ^ (54 - k + c) % mant (rg b) != 0).toNat = dM a b:=by
  unfold dM
  rw [c2,k2]
  have e1 : mant (rg a) * 2 ^ c * 2 ^ 54 = mant (rg a) * 2 ^ (54 - k + c) * 2 ^ k:=by
   rw [Nat.mul_assoc,Nat.mul_assoc,<- Nat.pow_add,<- Nat.pow_add]; congr 2; omega
  rw [e1,stick_scale _ _ _ (Nat.two_pow_pos k)]
  rfl
 rw [hmag]
 unfold nearQ
 congr 2
 unfold pD
 omega
end Fl
end
section
open Go.RowKit
theorem Fl.cmp_signed2 (s : Bool) (q v : Nat) : compare ((if !s then -1 else 1) * (q : Int) + (if s then -(v : Int) else (v : Int))) 0 = Fl.cmpS s (compare v q):=by
 unfold Fl.cmpS
 rw [Fl.compare_int,Fl.compare_nat]
 cases s
 ·simp only [Bool.false_eq_true,if_false,Bool.not_false,if_true]
  rcases Nat.lt_trichotomy v q with h | h | h
  ·rw [if_pos (by omega),if_pos h]
  ·rw [if_neg (by omega),if_pos (by omega),if_neg (by omega),if_pos h]
  ·rw [if_neg (by omega),if_neg (by omega),if_neg (by omega),if_neg (by omega)]
 ·simp only [Bool.false_eq_true,if_false,Bool.not_true,if_true]
  rcases Nat.lt_trichotomy v q with h | h | h
  ·rw [if_neg (by omega),if_neg (by omega),if_pos h]; rfl
  ·rw [if_neg (by omega),if_pos (by omega),if_neg (by omega),if_pos h]; rfl
  ·rw [if_pos (by omega),if_neg (by omega),if_neg (by omega)]; rfl
end
section
namespace Fl
open Ieee
end Fl
end
end Go.Proofs.YtnpanpkahbcecaaGreatDoor
