/-
Plain facts: natural numbers as digits to a base, the lowest first.
-/
import Derived.Test.YtnpanpkahbcecaaGreatDoorProg
import Derived.Lib.Hide
import Derived.Test.YtnpanpkahbcecaaGreatDoorPh
set_option linter.unusedVariables false
set_option linter.unusedSimpArgs false
namespace Go.Proofs.YtnpanpkahbcecaaGreatDoor
section
namespace Nt
def val (B : Nat) : List Int -> Nat
 | []=>0
 | x :: l=>x.toNat + B * val B l
def Dig (B : Nat) (l : List Int) : Prop:=∀ x,x ∈ l -> 0 <= x /\ x < (B : Int)
def dg (B : Nat) (n : Nat) : List Int:=if h : n = 0 \/ B < 2 then [] else ((n % B : Nat) : Int) :: dg B (n / B)
termination_by n
decreasing_by exact Nat.div_lt_self (by omega) (by omega)
theorem dg_zero (B : Nat) : dg B 0 = []:=by unfold dg; simp
theorem dg_pos (B n : Nat) (hB : 2 <= B) (h : n ≠ 0) : dg B n = ((n % B : Nat) : Int) :: dg B (n / B):=by
 conv=>lhs; unfold dg
 rw [dif_neg (by omega)]
theorem dig_dg (B : Nat) (hB : 2 <= B) : ∀ n,Dig B (dg B n):=by
 intro n
 induction n using Nat.strongRecOn with
 | _ n ih =>
   by_cases h : n = 0
   ·subst h; rw [dg_zero]; intro x hx; cases hx
   ·rw [dg_pos B n hB h]
    intro x hx
    rcases List.mem_cons.1 hx with rfl | hx
    ·have:=Nat.mod_lt n (show 0 < B by omega); omega
    ·exact ih (n / B) (Nat.div_lt_self (by omega) (by omega)) x hx
theorem val_dg (B : Nat) (hB : 2 <= B) : ∀ n,val B (dg B n) = n:=by
 intro n
 induction n using Nat.strongRecOn with
 | _ n ih =>
   by_cases h : n = 0
   ·subst h; rw [dg_zero]; rfl
   ·rw [dg_pos B n hB h]
    unfold val
    rw [ih (n / B) (Nat.div_lt_self (by omega) (by omega)),Int.toNat_natCast]
    have:=Nat.div_add_mod n B
    omega
theorem Dig.tail {B : Nat} {x : Int} {l : List Int} (h : Dig B (x :: l)) : Dig B l:=fun y hy=>h y (List.mem_cons_of_mem _ hy)
theorem Dig.head {B : Nat} {x : Int} {l : List Int} (h : Dig B (x :: l)) : 0 <= x /\ x < (B : Int):=h x List.mem_cons_self
theorem Dig.take {B : Nat} {l : List Int} (h : Dig B l) (n : Nat) : Dig B (l.take n):=fun x hx=>h x (List.mem_of_mem_take hx)
theorem val_append (B : Nat) : ∀ (l m : List Int),val B (l ++ m) = val B l + B ^ l.length * val B m
 | [],m=>by simp [val]
 | x :: l,m=>by
   simp only [List.cons_append,val,val_append B l m,List.length_cons,Nat.pow_succ]
   rw [Nat.mul_add,Nat.mul_comm (B ^ l.length) B,Nat.mul_assoc]; omega
theorem val_lt (B : Nat) (hB : 2 <= B) : ∀ (l : List Int),Dig B l -> val B l < B ^ l.length
 | [],_=>by simp [val]
 | x :: l,h=>by
   have ih:=val_lt B hB l h.tail
   have hx:=h.head
   simp only [val,List.length_cons,Nat.pow_succ]
   have : B * (val B l + 1) <= B * B ^ l.length:=Nat.mul_le_mul_left _ ih
   rw [Nat.mul_comm (B ^ l.length)]
   rw [Nat.mul_add,Nat.mul_one] at this
   omega
theorem dg_val (B : Nat) (hB : 2 <= B) : ∀ (l : List Int),Dig B l -> (l = [] \/ l.getLast? ≠ some 0) -> l = dg B (val B l)
 | [],_,_=>by simp [val,dg_zero]
 | [x],h,ht=>by
   have hx:=h.head
   have h0 : x ≠ 0:=by rcases ht with ht | ht; cases ht; simpa using ht
   have hv : val B [x] = x.toNat:=by simp [val]
   rw [hv,dg_pos B _ hB (by omega),Nat.mod_eq_of_lt (by omega),Nat.div_eq_of_lt (by omega),dg_zero]
   congr 1; omega
 | x :: y :: l,h,ht=>by
   have hx:=h.head
   have hl : (y :: l).getLast? ≠ some 0:=by
    rcases ht with ht | ht
    ·cases ht
    ·simpa [List.getLast?_cons_cons] using ht
   have ih:=dg_val B hB (y :: l) h.tail (.inr hl)
   have hv : val B (x :: y :: l) = x.toNat + B * val B (y :: l):=rfl
   have hp : val B (y :: l) ≠ 0:=by
    intro h0
    rw [h0,dg_zero] at ih; cases ih
   have h1 : (x.toNat + B * val B (y :: l)) % B = x.toNat:=by rw [Nat.add_mul_mod_self_left,Nat.mod_eq_of_lt (by omega)]
   have h2 : (x.toNat + B * val B (y :: l)) / B = val B (y :: l):=by rw [Nat.add_mul_div_left _ _ (by omega),Nat.div_eq_of_lt (by omega)]; omega
   have hne : x.toNat + B * val B (y :: l) ≠ 0:=by
    have : 0 < B * val B (y :: l):=Nat.mul_pos (by omega) (by omega)
    omega
   rw [hv,dg_pos B _ hB hne,h1,h2,<- ih]
   congr 1; omega
theorem val_zeros (B : Nat) (l : List Int) (h : ∀ x,x ∈ l -> x = 0) : val B l = 0:=by
 induction l with
 | nil=>rfl
 | cons x l ih =>
   simp only [val]
   rw [h x List.mem_cons_self,ih (fun y hy=>h y (List.mem_cons_of_mem _ hy))]; simp
theorem val_take (B : Nat) (l : List Int) (n : Nat) (h : ∀ x,x ∈ l.drop n -> x = 0) : val B (l.take n) = val B l:=by
 conv=>rhs; rw [<- List.take_append_drop n l]
 rw [val_append,val_zeros B _ h]; simp
theorem dg_len (B : Nat) (hB : 2 <= B) : ∀ (k n : Nat),n < B ^ k -> (dg B n).length <= k
 | 0,n,h=>by
   have : n = 0:=by simp at h; exact h
   subst this; rw [dg_zero]; simp
 | k + 1,n,h=>by
   by_cases h0 : n = 0
   ·subst h0; rw [dg_zero]; simp
   ·rw [dg_pos B n hB h0]
    have:=dg_len B hB k (n / B) (by rw [Nat.div_lt_iff_lt_mul (by omega),<- Nat.pow_succ]; exact h)
    simp; exact this
end Nt
end
end Go.Proofs.YtnpanpkahbcecaaGreatDoor
