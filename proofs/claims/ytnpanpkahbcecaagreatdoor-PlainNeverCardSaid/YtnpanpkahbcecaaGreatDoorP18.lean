/-
The walk of EdgeNear: it answers true.
-/
import Derived.Test.YtnpanpkahbcecaaGreatDoorP16
import Derived.RowKit3
import Derived.Lib.Hide
set_option linter.unusedVariables false
set_option linter.unusedSimpArgs false
namespace Go.Proofs.YtnpanpkahbcecaaGreatDoor
section
open Go.RowKit
end
section
open Go.RowKit
end
section
open Go.RowKit
theorem Fl.rg_key (w : Nat) : Fl.rg w = (Fl.key w).natAbs:=by unfold Fl.key; split <;> omega
theorem Fl.key_wd (s : Bool) (r : Nat) (h : r < Fl.W) : Fl.key (Fl.wd s r) = if s then -(r : Int) else (r : Int):=by
 unfold Fl.key; rw [Fl.sg_wd s r h,Fl.rg_wd s r h]
theorem Fl.key_next (x : Nat) (up : Bool) (hx : x < 2 * Fl.W) (h : Fl.rg x <= Fl.I) (hs : ¬ (Fl.rg x = Fl.I /\ up = !Fl.sg x)) : Fl.key (Fl.next x up) = Fl.key x + (if up then 1 else -1) /\ Fl.rg (Fl.next x up) <= Fl.I:=by
 have hIW : Fl.I + 1 < Fl.W:=by decide
 have key : Fl.key (Fl.next x up) = Fl.key x + (if up then 1 else -1):=by
  unfold Fl.next
  rw [if_neg (by omega),if_neg hs]
  have hw:=Fl.wd_sg_rg x hx
  by_cases h0 : Fl.rg x = 0
  ·rw [if_pos h0]
   have : Fl.key x = 0:=by unfold Fl.key; rw [h0]; simp
   rw [this]
   cases up <;> decide
  ·rw [if_neg h0]
   cases hsg : Fl.sg x
   ·rw [hsg] at hw
    have hxr : x = Fl.rg x:=hw.symm
    have hk : Fl.key x = Fl.rg x:=by unfold Fl.key; rw [hsg]; rfl
    cases up
    ·rw [if_neg (by simp),hk]
     have : x - 1 = Fl.wd false (Fl.rg x - 1):=by unfold Fl.wd; simp; omega
     rw [this,Fl.key_wd _ _ (by omega)]; simp; omega
    ·rw [if_pos (by simp),hk]
     have : x + 1 = Fl.wd false (Fl.rg x + 1):=by unfold Fl.wd; simp; omega
     rw [this,Fl.key_wd _ _ (by omega)]; simp
   ·rw [hsg] at hw
    have hxr : x = Fl.W + Fl.rg x:=hw.symm
    have hk : Fl.key x = -(Fl.rg x : Int):=by unfold Fl.key; rw [hsg]; rfl
    cases up
    ·rw [if_pos (by simp),hk]
     have : x + 1 = Fl.wd true (Fl.rg x + 1):=by unfold Fl.wd; simp; omega
     rw [this,Fl.key_wd _ _ (by omega)]; simp; omega
    ·rw [if_neg (by simp),hk]
     have : x - 1 = Fl.wd true (Fl.rg x - 1):=by unfold Fl.wd; simp; omega
     rw [this,Fl.key_wd _ _ (by omega)]; simp; omega
 refine ⟨key,?_⟩
 rw [Fl.rg_key,key]
 have hk : Fl.key x = if Fl.sg x then -(Fl.rg x : Int) else (Fl.rg x : Int):=rfl
 cases hsg : Fl.sg x <;> rw [hsg] at hk hs <;> simp only [Bool.false_eq_true,if_false,if_true] at hk
 ·cases up
  ·simp only [Bool.false_eq_true,if_false]
   have : Fl.I ≠ 0:=by decide
   omega
  ·simp only [if_true]
   have : Fl.rg x ≠ Fl.I:=fun h2=>hs ⟨h2,rfl⟩
   omega
 ·cases up
  ·simp only [Bool.false_eq_true,if_false]
   have : Fl.rg x ≠ Fl.I:=fun h2=>hs ⟨h2,rfl⟩
   omega
  ·simp only [if_true]
   have : Fl.I ≠ 0:=by decide
   omega
theorem Fl.whI_int (s : Bool) (k : Nat) (hk : k <= 9007199254740992) : Fl.isW (floatOfInt .f64 (Fl.sgi s k)) = true /\ Fl.whI (floatOfInt .f64 (Fl.sgi s k)) = Fl.sgi s k /\ floatOfInt .f64 (Fl.sgi s k) < 2 * Fl.W /\ Fl.rg (floatOfInt .f64 (Fl.sgi s k)) < Fl.I /\ Fl.vl (floatOfInt .f64 (Fl.sgi s k)) = if s then -((k * Fl.U : Nat) : Int) else ((k * Fl.U : Nat) : Int):=by
 rw [Fl.ofInt_sgi]
 obtain ⟨h1,h2⟩:=Fl.whole_rr k hk
 have hr:=Fl.rg_rnd (s && decide (0 < k)) (k * Fl.U)
 have hw : Fl.wh (Fl.rnd (s && decide (0 < k)) (k * Fl.U)) = k:=by
  unfold Fl.wh; rw [hr,h1]; exact Nat.mul_div_cancel _ Fl.U_pos
 have hc : Fl.rg (Fl.rnd (s && decide (0 < k)) (k * Fl.U)) <= Fl.c53:=by
  rw [hr,<- Fl.rv_le_iff,h1,Fl.rv_c53]; exact Nat.mul_le_mul_right _ hk
 have hy:=isW_yes _ ⟨hc,by rw [hw,hr,h1]⟩
 refine ⟨hy,?_,Fl.rnd_lt _ _,by rw [hr]; exact h2,?_⟩
 ·unfold Fl.whI; rw [hy,hw,Fl.sg_rnd]
  unfold Fl.sgi
  by_cases h : 0 < k
  ·rw [decide_eq_true h,Bool.and_true]; rfl
  ·have : k = 0:=by omega
   subst this; cases s <;> simp
 ·unfold Fl.vl
  rw [hr,h1,Fl.sg_rnd]
  by_cases h : 0 < k
  ·rw [decide_eq_true h,Bool.and_true]
  ·have : k = 0:=by omega
   subst this; cases s <;> simp
end
end Go.Proofs.YtnpanpkahbcecaaGreatDoor
