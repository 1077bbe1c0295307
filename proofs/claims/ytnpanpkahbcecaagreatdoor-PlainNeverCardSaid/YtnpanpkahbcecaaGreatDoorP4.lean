/-
The network as the code runs it: places turned about, then level by level, in place.
-/
import Derived.Test.YtnpanpkahbcecaaGreatDoorP2
import Derived.Lib.Hide
set_option linter.unusedVariables false
set_option linter.unusedSimpArgs false
namespace Go.Proofs.YtnpanpkahbcecaaGreatDoor
section
def rev : Nat -> Nat -> Nat
 | 0,_=>0
 | L + 1,b=>b % 2 * 2 ^ L + rev L (b / 2)
theorem rev_even (L b : Nat) : rev (L + 1) (2 * b) = rev L b:=by
 simp only [rev]
 rw [Nat.mul_mod_right,Nat.zero_mul,Nat.zero_add,Nat.mul_div_cancel_left _ (by decide)]
theorem rev_odd (L b : Nat) : rev (L + 1) (2 * b + 1) = 2 ^ L + rev L b:=by
 simp only [rev]
 rw [show (2 * b + 1) % 2 = 1 by omega,show (2 * b + 1) / 2 = b by omega,Nat.one_mul]
theorem rev_lt : ∀ (L b : Nat),rev L b < 2 ^ L
 | 0,_=>by simp [rev]
 | L + 1,b=>by
   have h:=rev_lt L (b / 2)
   simp only [rev]
   rw [Nat.pow_succ]
   rcases Nat.mod_two_eq_zero_or_one b with h0 | h0 <;> rw [h0] <;> omega
def lvl {α : Type} (add sub mul : α -> α -> α) (W : Nat -> Nat -> α) (K : Nat) (x : Nat -> α) : Nat -> Nat -> α
 | 0,p=>x (rev K p)
 | k + 1,p =>
   if p % 2 ^ (k + 1) < 2 ^ k then add (lvl add sub mul W K x k p) (mul (W k (p % 2 ^ k)) (lvl add sub mul W K x k (p + 2 ^ k)))
   else sub (lvl add sub mul W K x k (p - 2 ^ k)) (mul (W k (p % 2 ^ k)) (lvl add sub mul W K x k p))
theorem lvl_net {α : Type} (add sub mul : α -> α -> α) (W : Nat -> Nat -> α) (K : Nat) (x : Nat -> α) : ∀ k,k <= K -> ∀ b j,j < 2 ^ k -> lvl add sub mul W K x k (b * 2 ^ k + j) = net add sub mul W k (fun i=>x (i * 2 ^ (K - k) + rev (K - k) b)) j
 | 0,_,b,j,hj=>by
   have : j = 0:=by omega
   subst this
   simp only [lvl,net,Nat.pow_zero,Nat.mul_one,Nat.add_zero,Nat.sub_zero,Nat.zero_mul,Nat.zero_add]
 | k + 1,hk,b,j,hj=>by
   have ih:=lvl_net add sub mul W K x k (by omega)
   obtain ⟨L,hL⟩ : ∃ L,K - k = L + 1:=⟨K - k - 1,by omega⟩
   have hL2 : K - (k + 1) = L:=by omega
   have hp : 0 < 2 ^ k:=Nat.two_pow_pos k
   have e2 : 2 ^ (k + 1) = 2 * 2 ^ k:=by rw [Nat.pow_succ]; omega
   have eE : ∀ q,q < 2 ^ k -> lvl add sub mul W K x k (b * 2 ^ (k + 1) + q) = net add sub mul W k (ev (fun i=>x (i * 2 ^ (K - (k + 1)) + rev (K - (k + 1)) b))) q:=fun q hq=>by
    have h:=ih (2 * b) q hq
    rw [show b * 2 ^ (k + 1) = 2 * b * 2 ^ k by rw [e2,<- Nat.mul_assoc,Nat.mul_comm b 2]]
    rw [h]
    congr 1
    funext i
    show x _ = x _
    rw [hL,hL2,rev_even]
    congr 1
    rw [Nat.pow_succ,Nat.mul_comm (2 ^ L) 2,<- Nat.mul_assoc,Nat.mul_comm i 2]
   have eO : ∀ q,q < 2 ^ k -> lvl add sub mul W K x k (b * 2 ^ (k + 1) + 2 ^ k + q) = net add sub mul W k (od (fun i=>x (i * 2 ^ (K - (k + 1)) + rev (K - (k + 1)) b))) q:=fun q hq=>by
    have h:=ih (2 * b + 1) q hq
    rw [show b * 2 ^ (k + 1) + 2 ^ k = (2 * b + 1) * 2 ^ k by rw [e2,Nat.add_mul,Nat.one_mul,<- Nat.mul_assoc,Nat.mul_comm b 2]]
    rw [h]
    congr 1
    funext i
    show x _ = x _
    rw [hL,hL2,rev_odd]
    congr 1
    rw [Nat.pow_succ,Nat.mul_comm (2 ^ L) 2,<- Nat.mul_assoc,Nat.mul_comm i 2,Nat.add_mul (2 * i),Nat.one_mul]
    omega
   have hm1 : (b * 2 ^ (k + 1) + j) % 2 ^ (k + 1) = j:=by rw [Nat.mul_comm,Nat.mul_add_mod,Nat.mod_eq_of_lt hj]
   have hm2 : (b * 2 ^ (k + 1) + j) % 2 ^ k = j % 2 ^ k:=by
    rw [e2,show b * (2 * 2 ^ k) + j = 2 ^ k * (2 * b) + j by rw [Nat.mul_comm (2 ^ k),<- Nat.mul_assoc,Nat.mul_comm b 2],Nat.mul_add_mod]
   by_cases hl : j < 2 ^ k
   ·rw [lvl,net,if_pos (by rw [hm1]; exact hl),if_pos hl,hm2,Nat.mod_eq_of_lt hl,eE j hl]
    rw [show b * 2 ^ (k + 1) + j + 2 ^ k = b * 2 ^ (k + 1) + 2 ^ k + j by omega,eO j hl]
   ·obtain ⟨q,rfl⟩ : ∃ q,j = 2 ^ k + q:=⟨j - 2 ^ k,by omega⟩
    have hq : q < 2 ^ k:=by omega
    rw [lvl,net,if_neg (by rw [hm1]; exact hl),if_neg hl,hm2,Nat.add_mod_left,Nat.mod_eq_of_lt hq,Nat.add_sub_cancel_left]
    rw [show b * 2 ^ (k + 1) + (2 ^ k + q) - 2 ^ k = b * 2 ^ (k + 1) + q by omega,eE q hq]
    rw [show b * 2 ^ (k + 1) + (2 ^ k + q) = b * 2 ^ (k + 1) + 2 ^ k + q by omega,eO q hq]
theorem lvl_all {α : Type} (add sub mul : α -> α -> α) (W : Nat -> Nat -> α) (K : Nat) (x : Nat -> α) (j : Nat) (hj : j < 2 ^ K) : lvl add sub mul W K x K j = net add sub mul W K x j:=by
 have h:=lvl_net add sub mul W K x K (Nat.le_refl _) 0 j hj
 rw [Nat.zero_mul,Nat.zero_add] at h
 rw [h]
 congr 1
 funext i
 rw [Nat.sub_self]
 simp [rev]
end
end Go.Proofs.YtnpanpkahbcecaaGreatDoor
