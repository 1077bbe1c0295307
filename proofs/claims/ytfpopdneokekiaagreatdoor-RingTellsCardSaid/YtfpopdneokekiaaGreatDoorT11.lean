/-
Walk: rosetteref00.Whole.
-/
import Derived.Test.YtfpopdneokekiaaGreatDoorT10
import Derived.Lib.Hide
set_option linter.unusedVariables false
set_option linter.unusedSimpArgs false
namespace Go.Proofs.YtfpopdneokekiaaGreatDoor
section
namespace Nt
def sz (s : Bool) (n : Nat) : Int:=if s then -(n : Int) else (n : Int)
def nv (s : Bool) (N : Nat) (e K : Int) : Int:=sz s (N * 2 ^ (e + K).toNat)
theorem sz_zero (s : Bool) : sz s 0 = 0:=by unfold sz; cases s <;> rfl
theorem sz_not (s : Bool) (n : Nat) : sz (!s) n = - sz s n:=by unfold sz; cases s <;> simp
theorem nv_not (s : Bool) (N : Nat) (e K : Int) : nv (!s) N e K = - nv s N e K:=sz_not _ _
theorem nv_zero (s : Bool) (e K : Int) : nv s 0 e K = 0:=by unfold nv; rw [Nat.zero_mul,sz_zero]
theorem sz_add (s : Bool) (m n : Nat) : sz s (m + n) = sz s m + sz s n:=by unfold sz; split <;> omega
theorem sz_sub (s : Bool) (m n : Nat) (h : n <= m) : sz s (m - n) = sz s m - sz s n:=by unfold sz; split <;> omega
theorem pow_split (M : Nat) (e f K : Int) (h : e <= f) (he : 0 <= e + K) : M * 2 ^ (f - e).toNat * 2 ^ (e + K).toNat = M * 2 ^ (f + K).toNat:=by
 rw [Nat.mul_assoc,<- Nat.pow_add]; congr 2; omega
theorem plusC_val (s : Bool) (N : Nat) (e : Int) (s' : Bool) (M : Nat) (f K : Int) (h : e <= f) (he : 0 <= e + K) :
  (plusC s N e s' M f).2.2 = e /\ nv (plusC s N e s' M f).1 (plusC s N e s' M f).2.1 e K = nv s N e K + nv s' M f K:=by
 have hp:=pow_split M e f K h he
 unfold plusC
 unfold nv
 rw [<- hp]
 generalize M * 2 ^ (f - e).toNat = Q
 generalize 2 ^ (e + K).toNat = P
 by_cases hs : s = s'
 ·rw [if_pos hs]
  subst hs
  exact ⟨rfl,by dsimp only; rw [Nat.add_mul,sz_add]⟩
 ·rw [if_neg hs]
  have hs2 : s' = !s:=by cases s <;> cases s' <;> simp_all
  subst hs2
  by_cases hq : Q <= N
  ·rw [if_pos hq]
   exact ⟨rfl,by dsimp only; rw [Nat.sub_mul,sz_sub _ _ _ (Nat.mul_le_mul_right _ hq),sz_not]; omega⟩
  ·rw [if_neg hq]
   exact ⟨rfl,by dsimp only; rw [Nat.sub_mul,sz_sub _ _ _ (Nat.mul_le_mul_right _ (by omega)),sz_not]; rw [sz_not]; omega⟩
theorem plusN_val (s : Bool) (N : Nat) (e : Int) (s' : Bool) (M : Nat) (f K : Int) (he : 0 <= e + K) (hf : 0 <= f + K) :
  0 <= (plusN s N e s' M f).2.2 + K /\ nv (plusN s N e s' M f).1 (plusN s N e s' M f).2.1 (plusN s N e s' M f).2.2 K = nv s N e K + nv s' M f K:=by
 unfold plusN
 by_cases hN : N = 0
 ·rw [if_pos hN,hN,nv_zero]; exact ⟨hf,(Int.zero_add _).symm⟩
 ·rw [if_neg hN]
  by_cases hM : M = 0
  ·rw [if_pos hM,hM,nv_zero]; exact ⟨he,(Int.add_zero _).symm⟩
  ·rw [if_neg hM]
   by_cases hl : f < e
   ·rw [if_pos hl]
    obtain ⟨h1,h2⟩:=plusC_val s' M f s N e K (by omega) hf
    rw [h1,h2]; exact ⟨hf,Int.add_comm _ _⟩
   ·rw [if_neg hl]
    obtain ⟨h1,h2⟩:=plusC_val s N e s' M f K (by omega) he
    rw [h1,h2]; exact ⟨he,rfl⟩
theorem plusN_lt (s : Bool) (N : Nat) (e : Int) (s' : Bool) (M : Nat) (f : Int) (p d : Nat) (hN : N < 2 ^ p) (hM : M < 2 ^ p) (h1 : e - f <= d) (h2 : f - e <= d) : (plusN s N e s' M f).2.1 < 2 ^ (p + d + 1):=by
 have pd : 0 < 2 ^ d:=Nat.two_pow_pos d
 have big : ∀ Q : Nat,Q < 2 ^ p -> ∀ i : Int,i <= d -> Q * 2 ^ i.toNat < 2 ^ (p + d):=fun Q hQ i hi=>by
  rw [Nat.pow_add]
  exact Nat.mul_lt_mul_of_lt_of_le hQ (Nat.pow_le_pow_right (by decide) (by omega)) pd
 have small : ∀ Q : Nat,Q < 2 ^ p -> Q < 2 ^ (p + d):=fun Q hQ=>Nat.lt_of_lt_of_le hQ (Nat.pow_le_pow_right (by decide) (by omega))
 have a1:=big N hN (e - f) h1
 have a2:=big M hM (f - e) h2
 have a3:=small N hN
 have a4:=small M hM
 rw [Nat.pow_succ]
 unfold plusN plusC
 generalize 2 ^ (p + d) = B at *
 generalize N * 2 ^ (e - f).toNat = X at *
 generalize M * 2 ^ (f - e).toNat = Y at *
 split
 ·dsimp only; omega
 ·split
  ·dsimp only; omega
  ·split
   ·split
    ·dsimp only; omega
    ·split <;> dsimp only <;> omega
   ·split
    ·dsimp only; omega
    ·split <;> dsimp only <;> omega
theorem len_of_lt (N p : Nat) (h : N < 2 ^ p) : (dg 18446744073709551616 N).length <= p / 64 + 1:=by
 refine dg_len _ (by decide) _ _ (Nat.lt_of_lt_of_le h ?_)
 rw [show (18446744073709551616 : Nat) = 2 ^ 64 from rfl,<- Nat.pow_mul]
 exact Nat.pow_le_pow_right (by decide) (by omega)
def ordI (a b : Int) : Int:=if a < b then -1 else if a = b then 0 else 1
theorem nv_pos (N : Nat) (e K : Int) (h : N ≠ 0) : 0 < N * 2 ^ (e + K).toNat:=Nat.mul_pos (Nat.pos_of_ne_zero h) (Nat.two_pow_pos _)
theorem signI_nv (s : Bool) (N : Nat) (e K : Int) : signI s N = ordI (nv s N e K) 0:=by
 unfold signI ordI nv
 by_cases h : N = 0
 ·rw [if_pos h,h,Nat.zero_mul,sz_zero]; rfl
 ·rw [if_neg h]
  have hp:=nv_pos N e K h
  generalize N * 2 ^ (e + K).toNat = X at *
  unfold sz
  cases s
  ·simp only [Bool.false_eq_true,if_false]; rw [if_neg (by omega),if_neg (by omega)]
  ·simp only [if_true]; rw [if_pos (by omega)]
theorem bits_range (N : Nat) (h : N ≠ 0) : 0 < bitsN N /\ 2 ^ (bitsN N - 1) <= N /\ N < 2 ^ bitsN N:=by
 unfold bitsN
 rw [if_neg h]
 exact ⟨by omega,by rw [Nat.add_sub_cancel]; exact Nat.log2_self_le h,Nat.lt_log2_self⟩
theorem top_lt (N M : Nat) (e f K : Int) (hN : N ≠ 0) (hM : M ≠ 0) (he : 0 <= e + K) (hf : 0 <= f + K) (h : e + (bitsN N : Nat) < f + (bitsN M : Nat)) : N * 2 ^ (e + K).toNat < M * 2 ^ (f + K).toNat:=by
 obtain ⟨a1,a2,a3⟩:=bits_range N hN
 obtain ⟨b1,b2,b3⟩:=bits_range M hM
 have h1 : N * 2 ^ (e + K).toNat < 2 ^ (bitsN N + (e + K).toNat):=by rw [Nat.pow_add]; exact Nat.mul_lt_mul_of_pos_right a3 (Nat.two_pow_pos _)
 have h2 : 2 ^ (bitsN M - 1 + (f + K).toNat) <= M * 2 ^ (f + K).toNat:=by rw [Nat.pow_add]; exact Nat.mul_le_mul_right _ b2
 have h3 : (2 : Nat) ^ (bitsN N + (e + K).toNat) <= 2 ^ (bitsN M - 1 + (f + K).toNat):=Nat.pow_le_pow_right (by decide) (by omega)
 exact Nat.lt_of_lt_of_le h1 (Nat.le_trans h3 h2)
theorem cmpN_val (s : Bool) (N : Nat) (e : Int) (s' : Bool) (M : Nat) (f K : Int) (he : 0 <= e + K) (hf : 0 <= f + K) : cmpN s N e s' M f = ordI (nv s N e K) (nv s' M f K):=by
 have g1:=signI_nv s N e K
 have g2:=signI_nv s' M f K
 obtain ⟨g3,g4⟩:=plusN_val s N e (!s') M f K he hf
 have g5:=signI_nv (plusN s N e (!s') M f).1 (plusN s N e (!s') M f).2.1 (plusN s N e (!s') M f).2.2 K
 rw [g4,nv_not] at g5
 unfold cmpN
 rw [g5]
 by_cases hab : signI s N = signI s' M
 ·rw [if_neg (by omega),if_neg (by omega)]
  by_cases h0 : signI s N = 0
  ·rw [if_pos h0]
   have hN : N = 0:=by
    unfold signI at h0; split at h0
    ·assumption
    ·split at h0 <;> omega
   have hM : M = 0:=by
    rw [h0] at hab; unfold signI at hab; split at hab
    ·assumption
    ·split at hab <;> omega
   rw [hN,hM,nv_zero,nv_zero]; rfl
  ·rw [if_neg h0]
   have hN : N ≠ 0:=fun e=>h0 (by unfold signI; rw [if_pos e])
   have hM : M ≠ 0:=fun e=>h0 (by rw [hab]; unfold signI; rw [if_pos e])
   have hss : s = s':=by
    unfold signI at hab
    rw [if_neg hN,if_neg hM] at hab
    cases s <;> cases s' <;> simp_all
   subst hss
   have hs : signI s N = if s then -1 else 1:=by unfold signI; rw [if_neg hN]
   rw [hs]
   by_cases t1 : e + (bitsN N : Nat) < f + (bitsN M : Nat)
   ·rw [if_pos t1]
    have:=top_lt N M e f K hN hM he hf t1
    unfold ordI nv sz
    cases s
    ·simp only [Bool.false_eq_true,if_false]; rw [if_pos (by omega)]
    ·simp only [if_true]; rw [if_neg (by omega),if_neg (by omega)]; rfl
   ·rw [if_neg t1]
    by_cases t2 : f + (bitsN M : Nat) < e + (bitsN N : Nat)
    ·rw [if_pos t2]
     have:=top_lt M N f e K hM hN hf he t2
     unfold ordI nv sz
     cases s
     ·simp only [Bool.false_eq_true,if_false]; rw [if_neg (by omega),if_neg (by omega)]
     ·simp only [if_true]; rw [if_pos (by omega)]
    ·rw [if_neg t2]
     unfold ordI
     generalize nv s N e K = x
     generalize nv s M f K = y
     split <;> split <;> (try split) <;> (try split) <;> first | rfl | omega
 ·rw [g1,g2] at hab ⊢
  unfold ordI at hab ⊢
  generalize nv s N e K = x at *
  generalize nv s' M f K = y at *
  split at hab <;> split at hab <;> (try split at hab) <;> (try split at hab) <;> simp_all <;> omega
end Nt
end
section
open Go.RowKit
end
end Go.Proofs.YtfpopdneokekiaaGreatDoor
