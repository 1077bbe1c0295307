/-
Walk: ring.order.
-/
import Derived.Test.YtnpanpkahbcecaaGreatDoorP30
import Derived.Lib.Hide
set_option linter.unusedVariables false
set_option linter.unusedSimpArgs false
namespace Go.Proofs.YtnpanpkahbcecaaGreatDoor
section
open Go.RowKit
theorem and_sub_one (t m : Nat) (h : (2 ^ t * (2 * m + 1)) &&& (2 ^ t * (2 * m + 1) - 1) = 0) : m = 0:=by
 by_cases hm : m = 0
 ·exact hm
 exfalso
 have hp:=Nat.two_pow_pos t
 have hl : (2 ^ t * (2 * m + 1) - 1) = 2 ^ (t + 1) * m + (2 ^ t - 1):=by
  rw [Nat.pow_succ,Nat.mul_add,Nat.mul_assoc]; omega
 have ha : 2 ^ t * (2 * m + 1) = 2 ^ (t + 1) * m + 2 ^ t:=by
  rw [Nat.pow_succ,Nat.mul_add,Nat.mul_assoc]; omega
 obtain ⟨i,hi⟩:=Nat.exists_testBit_of_ne_zero hm
 have h1 : (2 ^ (t + 1) * m + 2 ^ t).testBit (t + 1 + i) = true:=by
  rw [Nat.testBit_two_pow_mul_add _ (by rw [Nat.pow_succ]; omega),if_neg (by omega),Nat.add_sub_cancel_left]; exact hi
 have h2 : (2 ^ (t + 1) * m + (2 ^ t - 1)).testBit (t + 1 + i) = true:=by
  rw [Nat.testBit_two_pow_mul_add _ (by rw [Nat.pow_succ]; omega),if_neg (by omega),Nat.add_sub_cancel_left]; exact hi
 have h3 : ((2 ^ t * (2 * m + 1)) &&& (2 ^ t * (2 * m + 1) - 1)).testBit (t + 1 + i) = true:=by
  rw [Nat.testBit_and,hl,ha,h1,h2]; rfl
 rw [h] at h3
 simp at h3
theorem rorder_yes (K n : Nat) (A B : Option Addr) (c c' : Nat) (w : World) (hK : K <= 14) (hn : n = 2 ^ K) (hT : TabAt 2 Lib.deBruijn64tab w) :
  Calls Tryz.prog 125 #[.slice A n c,.slice B n c'] w fun e w'=>e = .returned (.tuple #[.int .i64 K,.bool true]) /\ w = w':=by
 have ha:=and_pred K (by omega)
 have hc:=ctz_pow2 K hK
 have h2 : 2 ^ K <= 2 ^ 14:=Nat.pow_le_pow_right (by decide) hK
 have h1:=Nat.two_pow_pos K
 have HC:=Hd (tz_any (2 ^ K) (by omega) w hT)
 rw [hc] at HC
 rw [<- hn] at ha h2 h1 HC
 have u1 : IntKind.i64.wrap ((n : Int) - 1) = (n : Int) - 1:=by rw [IntKind.wrap_i64]; omega
 have u2 : IntKind.u64.wrap (n : Int) = (n : Int):=by rw [IntKind.wrap_u64]; omega
 have c1 : (0 : Int) < (n : Int):=by omega
 have c2 : (K : Int) <= 14:=by omega
 clear hc hn hT
 go_enter Tryz.func125,Tryz.ntmps125
 go_wp2_with fail
 refine HC.out.mono ?_
 rintro e w1 ⟨rfl,rfl⟩
 go_wp2_with fail
 go_ret2
 exact ⟨rfl,rfl⟩
def OrdOk (n n' : Nat) : Prop:=∃ K,K <= 14 /\ n = 2 ^ K /\ n' = n
set_option maxHeartbeats 1000000 in
theorem rorder_no (n n' : Nat) (A B : Option Addr) (c c' : Nat) (w : World) (hn : n < 9223372036854775808) (h : ¬ OrdOk n n') (hT : TabAt 2 Lib.deBruijn64tab w) :
  Calls Tryz.prog 125 #[.slice A n c,.slice B n' c'] w fun e w'=>∃ k : Int,e = .returned (.tuple #[.int .i64 k,.bool false]) /\ w = w':=by
 have HC:=Hd (tz_any n (by omega) w hT)
 have u2 : IntKind.u64.wrap (n : Int) = (n : Int):=by rw [IntKind.wrap_u64]; omega
 obtain ⟨t,ht⟩ : ∃ t,t = Lib.ctz 64 n:=⟨_,rfl⟩
 rw [<- ht] at HC
 by_cases e1 : n = n'
 ·subst e1
  by_cases e2 : n = 0
  ·subst e2
   clear h ht
   go_enter Tryz.func125,Tryz.ntmps125
   go_wp2_with fail
   refine HC.out.mono ?_
   rintro e w1 ⟨rfl,rfl⟩
   go_wp2_with fail
   go_ret2
   exact ⟨_,rfl,rfl⟩
  ·obtain ⟨m,hm,_⟩:=Lib.ctzFrom_spec 64 n (by omega) (by omega)
   have htc : Lib.ctz 64 n = Lib.ctzFrom 64 n:=by unfold Lib.ctz; rw [if_neg e2]
   rw [<- htc,<- ht] at hm
   have hand:=(bits_nat .i64 63 (by decide) (by intro n h0 h1; rw [IntKind.wrap_i64]; omega) n (n - 1) (by omega) (by omega)).1
   have u1 : IntKind.i64.wrap ((n : Int) - 1) = ((n - 1 : Nat) : Int):=by rw [IntKind.wrap_i64]; omega
   have u1' : (n : Int) - 1 = ((n - 1 : Nat) : Int):=by omega
   obtain ⟨q,hq⟩ : ∃ q,q = n - 1:=⟨_,rfl⟩
   rw [<- hq] at hand u1 u1'
   obtain ⟨r,hr⟩ : ∃ r,r = n &&& q:=⟨_,rfl⟩
   rw [<- hr] at hand
   have c1 : (0 : Int) < (n : Int):=by omega
   by_cases e3 : r = 0
   ·have hm0 : m = 0:=and_sub_one t m (by rw [<- hm,<- hq,<- hr]; exact e3)
    have ht14 : ¬ (t : Int) <= 14:=by
     intro hc
     exact h ⟨t,by omega,by rw [hm,hm0]; simp,rfl⟩
    have ht15 : decide ((t : Int) <= 14) = false:=decide_eq_false ht14
    subst e3
    clear h ht hm htc hr hq hm0 e2 ht14
    go_enter Tryz.func125,Tryz.ntmps125
    go_wp2_with fail
    refine HC.out.mono ?_
    rintro e w1 ⟨rfl,rfl⟩
    go_wp2_with fail
    go_ret2
    exact ⟨_,rfl,rfl⟩
   ·have hr0 : ((r : Int) == 0) = false:=by simp; omega
    clear h ht hm htc hr hq e2 e3
    go_enter Tryz.func125,Tryz.ntmps125
    go_wp2_with fail
    refine HC.out.mono ?_
    rintro e w1 ⟨rfl,rfl⟩
    go_wp2_with fail
    go_ret2
    exact ⟨_,rfl,rfl⟩
 ·have hne : ((n : Int) == (n' : Int)) = false:=by simp; omega
  clear h ht
  go_enter Tryz.func125,Tryz.ntmps125
  go_wp2_with fail
  refine HC.out.mono ?_
  rintro e w1 ⟨rfl,rfl⟩
  go_wp2_with fail
  go_ret2
  exact ⟨_,rfl,rfl⟩
end
end Go.Proofs.YtnpanpkahbcecaaGreatDoor
