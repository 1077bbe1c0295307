/-
Walk: cut's spread.
-/
import Derived.Test.YtnpanpkahbcecaaGreatDoorP3
import Derived.Deep.RegionHeld3
import Derived.Lib.Hide
set_option linter.unusedVariables false
set_option linter.unusedSimpArgs false
namespace Go.Proofs.YtnpanpkahbcecaaGreatDoor
section
namespace Fl
open Ieee
@[irreducible] def E : Nat:=1074
theorem E_eq : E = 1074:=by unfold E; rfl
theorem U_ex : ∃ u : Nat,u = 2 ^ E:=⟨_,rfl⟩
noncomputable def U : Nat:=Classical.choose U_ex
theorem U_def : U = 2 ^ E:=Classical.choose_spec U_ex
theorem U_pos : 0 < U:=by rw [U_def]; exact Nat.two_pow_pos _
def c53 : Nat:=4845873199050653696
theorem p1 (e : Nat) : B * 2 ^ (e + 1) = 9007199254740992 * 2 ^ e:=by
 rw [Nat.pow_succ']; generalize 2 ^ e = q; unfold B; omega
theorem p2 (e : Nat) (h : 53 <= e) : 2 * (B * 2 ^ (e - 53)) = 2 ^ e:=by
 rw [<- Nat.mul_assoc,show 2 * B = 2 ^ 53 from by decide,<- Nat.pow_add]; congr 1; omega
theorem p3 (e c : Nat) (h : (e + 1) * B + B = c) : rv c = 9007199254740992 * 2 ^ e:=by
 have:=rv_of (e + 1) B (by unfold B; omega) (.inr (Nat.le_refl _))
 rw [<- h,this]; exact p1 e
theorem p4 (e c : Nat) (he : 53 <= e) (h : (e - 53) * B + B = c) : 2 * rv c = 2 ^ e:=by
 have:=rv_of (e - 53) B (by unfold B; omega) (.inr (Nat.le_refl _))
 rw [<- h,this]; exact p2 e he
theorem rv_c53 : rv c53 = 9007199254740992 * U:=by rw [U_def]; exact p3 E c53 (by rw [E_eq]; decide)
theorem c53_lt : c53 < I:=by decide
def rr (n : Nat) : Nat:=rnd false n
theorem rnd_rr (s : Bool) (n : Nat) : rnd s n = wd s (rr n) /\ rr n <= I:=by
 obtain ⟨r,h1,h2⟩:=rnd_spec s n
 obtain ⟨q,h3,h4⟩:=rnd_spec false n
 have : rr n = min q I:=h3
 rw [h1,this,h2.eq h4]
 exact ⟨rfl,Nat.min_le_right _ _⟩
theorem rr_lt (n : Nat) : rr n < W:=Nat.lt_of_le_of_lt (rnd_rr false n).2 I_lt_W
theorem rg_rnd (s : Bool) (n : Nat) : rg (rnd s n) = rr n:=by rw [(rnd_rr s n).1,rg_wd _ _ (rr_lt n)]
theorem sg_rnd (s : Bool) (n : Nat) : sg (rnd s n) = s:=by rw [(rnd_rr s n).1,sg_wd _ _ (rr_lt n)]
theorem rr_exact (r : Nat) (h : r <= I) : rr (rv r) = r:=by
 have:=rnd_exact false r h
 unfold rr; rw [this]; rfl
theorem rv_rr (n r : Nat) (h : rv r = n) (hr : r <= I) : rv (rr n) = n:=by rw [<- h,rr_exact r hr]
theorem rnd_lt (s : Bool) (n : Nat) : rnd s n < 2 * W:=by rw [(rnd_rr s n).1]; exact wd_lt _ _ (rr_lt n)
theorem rr_zero : rr 0 = 0:=by have:=rr_exact 0 (by decide); rwa [rv_zero] at this
theorem rep_rr (m j : Nat) (h : m <= 2 * B) (hI : m * 2 ^ j < rv I) : rv (rr (m * 2 ^ j)) = m * 2 ^ j /\ rr (m * 2 ^ j) < I:=by
 obtain ⟨r,hr⟩:=rep m j h
 have : r < I:=rv_lt_iff.1 (by rw [hr]; exact hI)
 refine ⟨rv_rr _ r hr (by omega),?_⟩
 rw [<- hr,rr_exact r (by omega)]; exact this
theorem rv_I_big : 9007199254740992 * U < rv I:=by rw [<- rv_c53]; exact rv_mono c53_lt
theorem whole_rr (k : Nat) (h : k <= 9007199254740992) : rv (rr (k * U)) = k * U /\ rr (k * U) < I:=by
 have h2:=Nat.lt_of_le_of_lt (Nat.mul_le_mul_right U h) rv_I_big
 rw [U_def] at h2 ⊢
 exact rep_rr k E (by unfold B; omega) h2
theorem Cut.eq {n b k q : Nat} (h1 : Cut n b k) (h2 : Cut n b q) : k = q:=by
 obtain ⟨a1,a2,a3,a4⟩:=h1
 obtain ⟨b1,b2,b3,b4⟩:=h2
 have pb : 0 < 2 ^ b:=Nat.two_pow_pos _
 generalize 2 ^ b = P at *
 have e1 : (2 * k + 1) * P = 2 * k * P + P:=by rw [Nat.add_mul,Nat.one_mul]
 have e2 : (2 * q + 1) * P = 2 * q * P + P:=by rw [Nat.add_mul,Nat.one_mul]
 rw [e1] at a1 a2; rw [e2] at b1 b2
 rcases Nat.lt_trichotomy k q with h | h | h
 ·exfalso
  have : 2 * (k + 1) * P <= 2 * q * P:=Nat.mul_le_mul_right _ (by omega)
  have e3 : 2 * (k + 1) * P = 2 * k * P + 2 * P:=by rw [Nat.mul_add,Nat.add_mul]
  have h3 : 2 * q * P = 2 * k * P + 2 * P:=by omega
  have c1:=a2 (by omega)
  have c2:=b4 (by omega)
  have : q = k + 1:=by
   have : 2 * q * P = 2 * (k + 1) * P:=by omega
   have:=Nat.eq_of_mul_eq_mul_right pb this
   omega
  omega
 ·exact h
 ·exfalso
  have : 2 * (q + 1) * P <= 2 * k * P:=Nat.mul_le_mul_right _ (by omega)
  have e3 : 2 * (q + 1) * P = 2 * q * P + 2 * P:=by rw [Nat.mul_add,Nat.add_mul]
  have h3 : 2 * k * P = 2 * q * P + 2 * P:=by omega
  have c1:=b2 (by omega)
  have c2:=a4 (by omega)
  have : k = q + 1:=by
   have : 2 * k * P = 2 * (q + 1) * P:=by omega
   have:=Nat.eq_of_mul_eq_mul_right pb this
   omega
  omega
theorem Cut.scale {n b k : Nat} (h : Cut n b k) (c : Nat) : Cut (n * 2 ^ c) (b + c) k:=by
 have hp : 0 < 2 ^ c:=Nat.two_pow_pos _
 have key : ∀ x : Nat,x * 2 ^ (b + c) = x * 2 ^ b * 2 ^ c:=fun x=>by rw [Nat.pow_add,Nat.mul_assoc]
 refine ⟨?_,?_,?_,?_⟩
 ·rw [key,<- Nat.mul_assoc]; exact Nat.mul_le_mul_right _ h.hi
 ·intro e; rw [key,<- Nat.mul_assoc] at e; exact h.hie (Nat.eq_of_mul_eq_mul_right hp e)
 ·rw [key,<- Nat.mul_assoc,Nat.pow_add,<- Nat.add_mul]; exact Nat.mul_le_mul_right _ h.lo
 ·intro e; rw [key,<- Nat.mul_assoc,Nat.pow_add,<- Nat.add_mul] at e; exact h.loe (Nat.eq_of_mul_eq_mul_right hp e)
theorem cut_toward_zero (neg : Bool) (n b : Nat) : Toward.zero.cut neg n b = n / 2 ^ b:=by
 unfold Toward.cut
 simp only [Nat.one_shiftLeft,Bool.toNat_false,Nat.add_zero]
 rcases Nat.lt_or_ge (n.log2 + 2) b with hb | hb
 ·have hmin : min b (n.log2 + 2) = n.log2 + 2:=by omega
  rw [hmin]
  have hn : n < 2 ^ (n.log2 + 1):=Nat.lt_log2_self
  have h1 : 2 ^ (n.log2 + 1) <= 2 ^ (n.log2 + 2):=Nat.pow_le_pow_right (by omega) (by omega)
  have h2 : 2 ^ (n.log2 + 1) <= 2 ^ b:=Nat.pow_le_pow_right (by omega) (by omega)
  rw [Nat.div_eq_of_lt (by omega),Nat.div_eq_of_lt (by omega)]
 ·have hmin : min b (n.log2 + 2) = b:=by omega
  rw [hmin]
noncomputable def wh (x : Nat) : Nat:=rv (rg x) / U
def nk (x : Nat) : Nat:=Toward.even.cut false (rv (rg x)) E
theorem nk_cut (x : Nat) : Cut (rv (rg x)) E (nk x):=cut_even _ _ _
theorem integral_zero (x : Nat) (h : rg x < I) : (double.read x).integral .zero = .number (sg x) (wh x) 0:=by
 rw [read_fin x h]
 unfold Datum.integral
 dsimp only
 rw [cut_toward_zero,Nat.shiftLeft_eq]
 congr 1
 unfold wh rv
 rw [U_def]
 have hE:=E_eq
 rcases Nat.lt_or_ge (ex (rg x)) E with h1 | h1
 ·have e1 : (-1074 + (ex (rg x) : Nat) : Int).toNat = 0:=by omega
  have e2 : (-(-1074 + (ex (rg x) : Nat) : Int)).toNat = E - ex (rg x):=by omega
  rw [e1,e2,Nat.pow_zero,Nat.mul_one]
  have : E = (E - ex (rg x)) + ex (rg x):=by omega
  conv=>rhs; rw [this,Nat.pow_add]
  rw [Nat.mul_div_mul_right _ _ (Nat.two_pow_pos _)]
 ·have e1 : (-1074 + (ex (rg x) : Nat) : Int).toNat = ex (rg x) - E:=by omega
  have e2 : (-(-1074 + (ex (rg x) : Nat) : Int)).toNat = 0:=by omega
  rw [e1,e2,Nat.pow_zero,Nat.div_one]
  have : ex (rg x) = (ex (rg x) - E) + E:=by omega
  conv=>rhs; rw [this,Nat.pow_add,<- Nat.mul_assoc]
  rw [Nat.mul_div_cancel _ (Nat.two_pow_pos _)]
theorem integral_even (x : Nat) (h : rg x < I) : (double.read x).integral .even = .number (sg x) (nk x) 0:=by
 rw [read_fin x h]
 unfold Datum.integral
 dsimp only
 rw [Nat.shiftLeft_eq]
 congr 1
 refine Cut.eq (n:=rv (rg x)) (b:=E) ?_ (nk_cut x)
 unfold rv
 have hE:=E_eq
 rcases Nat.lt_or_ge (ex (rg x)) E with h1 | h1
 ·have e1 : (-1074 + (ex (rg x) : Nat) : Int).toNat = 0:=by omega
  have e2 : (-(-1074 + (ex (rg x) : Nat) : Int)).toNat = E - ex (rg x):=by omega
  rw [e1,e2,Nat.pow_zero,Nat.mul_one]
  have:=(cut_even (sg x) (mant (rg x)) (E - ex (rg x))).scale (ex (rg x))
  rwa [show E - ex (rg x) + ex (rg x) = E by omega] at this
 ·have e1 : (-1074 + (ex (rg x) : Nat) : Int).toNat = ex (rg x) - E:=by omega
  have e2 : (-(-1074 + (ex (rg x) : Nat) : Int)).toNat = 0:=by omega
  rw [e1,e2]
  have:=(cut_even (sg x) (mant (rg x) * 2 ^ (ex (rg x) - E)) 0).scale E
  rw [Nat.mul_assoc,<- Nat.pow_add,show ex (rg x) - E + E = ex (rg x) by omega,Nat.zero_add] at this
  exact this
theorem write_whole (s : Bool) (k : Nat) : double.write (.number s k 0) = rnd s (k * U):=by
 unfold Format.write
 dsimp only
 rw [nearest_units s k 0 (by omega),show ((0 : Int) + 1074).toNat = E from by rw [E_eq]; rfl,U_def]
def sgi (s : Bool) (k : Nat) : Int:=if s then -(k : Int) else (k : Int)
theorem toInt_zero (x : Nat) (h : rg x < I) : (double.read x).toInt .zero = some (sgi (sg x) (wh x)):=by
 unfold Datum.toInt
 rw [integral_zero x h]
 unfold signed sgi
 cases sg x <;> simp
theorem ofInt_sgi (s : Bool) (k : Nat) : floatOfInt .f64 (sgi s k) = rnd (s && decide (0 < k)) (k * U):=by
 unfold floatOfInt FloatKind.nearest
 rw [show FloatKind.f64.encode (.number (decide (sgi s k < 0)) (sgi s k).natAbs 0) = rnd (decide (sgi s k < 0)) ((sgi s k).natAbs * U) from write_whole _ _]
 unfold sgi
 cases s
 ·simp only [Bool.false_eq_true,if_false,Bool.false_and]
  rw [decide_eq_false (by omega)]; rfl
 ·by_cases hk : 0 < k
  ·simp [hk]
  ·have : k = 0:=by omega
   subst this; simp
theorem wh_le (x : Nat) (h : rg x <= c53) : wh x <= 9007199254740992:=by
 have:=rv_le h; rw [rv_c53] at this
 exact Nat.div_le_of_le_mul (by rw [Nat.mul_comm]; exact this)
theorem nk_near (x : Nat) : 2 * rv (rg x) <= (2 * nk x + 1) * U /\ (2 * rv (rg x) = (2 * nk x + 1) * U -> nk x % 2 = 0) /\ 2 * nk x * U <= 2 * rv (rg x) + U /\ (2 * nk x * U = 2 * rv (rg x) + U -> nk x % 2 = 0):=by
 obtain ⟨a,b,c,d⟩:=nk_cut x
 rw [<- U_def] at a b c d
 exact ⟨a,b,c,d⟩
theorem nk_le (x : Nat) (h : rg x <= c53) : nk x <= 9007199254740992:=by
 have h1:=rv_le h; rw [rv_c53] at h1
 have h2:=(nk_near x).2.2.1
 rcases Nat.lt_or_ge 9007199254740992 (nk x) with h3 | h3
 ·exfalso
  have : 2 * 9007199254740993 * U <= 2 * nk x * U:=Nat.mul_le_mul_right _ (by omega)
  have:=U_pos
  omega
 ·exact h3
noncomputable def dist (a k : Nat) : Nat:=((a : Int) - (k * U : Nat)).natAbs
theorem sub_whole (x : Nat) (hx : x < 2 * W) (hf : rg x < I) (t : Bool) (k : Nat) (hk : k <= 9007199254740992) (ht : t = sg x \/ k = 0) :
  ∃ s,double.sub x (rnd t (k * U)) = some (rnd s (dist (rv (rg x)) k)):=by
 obtain ⟨h1,h2⟩:=whole_rr k hk
 have hlt:=rnd_lt t (k * U)
 have hI : rg (rnd t (k * U)) < I:=by rw [rg_rnd]; exact h2
 rw [sub_any _ _ hlt,add_fin _ _ hf (by rw [rg_ng _ hlt]; exact hI),vl_ng _ hlt]
 refine ⟨_,congrArg (fun n=>some (rnd _ n)) ?_⟩
 unfold vl dist
 rw [rg_rnd,sg_rnd,h1]
 have hz : k = 0 -> k * U = 0:=fun h=>by rw [h,Nat.zero_mul]
 generalize k * U = q at *
 generalize rv (rg x) = p at *
 rcases ht with rfl | ht
 ·cases sg x
  ·simp only [Bool.false_eq_true,if_false]; omega
  ·simp only [if_true]; omega
 ·have:=hz ht
  subst this
  cases sg x <;> cases t <;> simp only [Bool.false_eq_true,if_false,if_true] <;> omega
end Fl
end
section
namespace Fl
open Ieee
theorem ex_le {a b : Nat} (h : a <= b) : ex a <= ex b:=by
 unfold ex; have:=Nat.div_le_div_right (c:=B) h; omega
theorem Rnd.near {n r : Nat} (h : Rnd n 0 r) : 2 * n <= 2 * rv r + 2 ^ ex r /\ 2 * rv r <= 2 * n + 2 ^ ex r:=by
 obtain ⟨h1,_,h3,_⟩:=h
 rw [Nat.pow_zero,Nat.mul_one] at h1 h3
 have hs:=rv_succ r
 refine ⟨by omega,?_⟩
 rcases Nat.eq_zero_or_pos r with h0 | h0
 ·subst h0; rw [rv_zero]; exact Nat.le_trans (by omega) (Nat.zero_le _)
 ·have:=h3 h0
  have hp:=rv_succ (r - 1)
  rw [show r - 1 + 1 = r by omega] at hp
  have : 2 ^ ex (r - 1) <= 2 ^ ex r:=Nat.pow_le_pow_right (by omega) (ex_le (by omega))
  omega
theorem rv_dvd (r : Nat) : (2 ^ ex r : Nat) ∣ rv r:=⟨mant r,Nat.mul_comm _ _⟩
theorem pow_dvd {a b : Nat} (h : a <= b) : (2 ^ a : Nat) ∣ 2 ^ b:=Nat.pow_dvd_pow 2 h
theorem rep_nat (x j : Nat) (hd : (2 ^ j : Nat) ∣ x) (h : x <= 2 * B * 2 ^ j) : ∃ t,rv t = x:=by
 obtain ⟨m,rfl⟩:=hd
 rw [Nat.mul_comm]
 refine rep m j ?_
 rw [Nat.mul_comm] at h
 exact Nat.le_of_mul_le_mul_right h (Nat.two_pow_pos _)
theorem fast_rep (a b r : Nat) (A C S : Int) (hA : A.natAbs = rv a) (hC : C.natAbs = rv b) (hba : b <= a) (hr : Rnd (A + C).natAbs 0 r) (hS : S.natAbs = rv r) (hsg : (0 <= A + C /\ 0 <= S) \/ (A + C <= 0 /\ S <= 0)) : ∃ t,rv t = (S - A).natAbs:=by
 have hn:=hr.near
 by_cases hex : A + C = S
 ·exact ⟨b,by rw [<- hC]; congr 1; omega⟩
 have hdiff : (A + C - S).natAbs * 2 <= 2 ^ ex r:=by omega
 generalize hl : ex r = l at *
 have hl0 : 0 < l:=by
  rcases Nat.eq_zero_or_pos l with h | h
  ·subst h; rw [Nat.pow_zero] at hdiff; omega
  ·exact h
 have dS : (2 ^ l : Nat) ∣ S.natAbs:=by rw [hS,<- hl]; exact rv_dvd r
 have dA : (2 ^ ex a : Nat) ∣ A.natAbs:=by rw [hA]; exact rv_dvd a
 have dC : (2 ^ ex b : Nat) ∣ C.natAbs:=by rw [hC]; exact rv_dvd b
 have hexba : ex b <= ex a:=ex_le hba
 have pl : 0 < 2 ^ l:=Nat.two_pow_pos _
 have l2 : 2 ^ l = 2 * 2 ^ (l - 1):=by rw [<- Nat.pow_succ',show (l - 1).succ = l by omega]
 -- b's last digit lies below the sum's
 have hbl : ex b < l:=by
  rcases Nat.lt_or_ge (ex b) l with h | h
  ·exact h
  ·exfalso
   have d1 : ((2 ^ l : Nat) : Int) ∣ A:=Int.ofNat_dvd_left.2 (Nat.dvd_trans (pow_dvd (by omega)) dA)
   have d2 : ((2 ^ l : Nat) : Int) ∣ C:=Int.ofNat_dvd_left.2 (Nat.dvd_trans (pow_dvd h) dC)
   have d3 : ((2 ^ l : Nat) : Int) ∣ S:=Int.ofNat_dvd_left.2 dS
   have d4 : ((2 ^ l : Nat) : Int) ∣ A + C - S:=Int.dvd_sub (Int.dvd_add d1 d2) d3
   have d5 : (2 ^ l : Nat) ∣ (A + C - S).natAbs:=Int.ofNat_dvd_left.1 d4
   have:=Nat.le_of_dvd (by omega) d5
   omega
 have hCb : C.natAbs < B * 2 ^ l:=by
  rw [hC]
  have h1 : rv b < 2 * B * 2 ^ ex b:=Nat.mul_lt_mul_of_pos_right (mant_lt b) (Nat.two_pow_pos _)
  have h2 : 2 * B * 2 ^ ex b <= 2 * B * 2 ^ (l - 1):=Nat.mul_le_mul_left _ (Nat.pow_le_pow_right (by omega) (by omega))
  have h3 : 2 * B * 2 ^ (l - 1) = B * 2 ^ l:=by rw [l2,Nat.mul_comm 2 B,Nat.mul_assoc]
  omega
 rcases Nat.lt_or_ge (ex a) l with hal | hal
 ·-- then l is one more
  have hAlt : A.natAbs + 2 ^ ex a <= 2 * B * 2 ^ ex a:=by
   rw [hA]
   have h1 : rv a = mant a * 2 ^ ex a:=rfl
   have h2 : (mant a + 1) * 2 ^ ex a <= 2 * B * 2 ^ ex a:=Nat.mul_le_mul_right _ (mant_lt a)
   rw [Nat.add_mul,Nat.one_mul] at h2
   omega
  have hCA : C.natAbs <= A.natAbs:=by rw [hA,hC]; exact rv_le hba
  have hle : l = ex a + 1:=by
   -- the rung of 2^52 at ex a + 2,and the one before
   have hq:=rv_of (ex a + 1) (2 * B) (Nat.le_refl _) (.inr (by omega))
   have hq1:=rv_of (ex a + 1) (2 * B - 1) (by omega) (.inr (by unfold B; omega))
   have hmono : r <= (ex a + 1) * B + (2 * B - 1):=by
    refine hr.mono (Rnd.exact _ 0) ?_
    rw [hq1,Nat.pow_zero,Nat.mul_one,Nat.mul_one]
    rw [Nat.mul_one]
    have : (2 * B - 1) * 2 ^ (ex a + 1) + 2 ^ (ex a + 1) = 2 * (2 * B * 2 ^ ex a):=by
     rw [show (2 * B - 1) * 2 ^ (ex a + 1) + 2 ^ (ex a + 1) = (2 * B - 1 + 1) * 2 ^ (ex a + 1) by rw [Nat.add_mul,Nat.one_mul]]
     rw [show 2 * B - 1 + 1 = 2 * B by unfold B; omega,Nat.pow_succ']
     rw [<- Nat.mul_assoc,Nat.mul_comm (2 * B) 2,Nat.mul_assoc]
    have h3 : 2 ^ (ex a + 1) = 2 * 2 ^ ex a:=Nat.pow_succ' ..
    omega
   have:=ex_le hmono
   rw [ex_of (ex a + 1) (2 * B - 1) (by unfold B; omega) (.inr (by unfold B; omega))] at this
   omega
  have e1 : l - 1 = ex a:=by omega
  have d1 : ((2 ^ ex a : Nat) : Int) ∣ A:=Int.ofNat_dvd_left.2 dA
  have d3 : ((2 ^ ex a : Nat) : Int) ∣ S:=Int.ofNat_dvd_left.2 (Nat.dvd_trans (pow_dvd (by omega)) dS)
  have d5 : (2 ^ ex a : Nat) ∣ (S - A).natAbs:=Int.ofNat_dvd_left.1 (Int.dvd_sub d3 d1)
  refine rep_nat _ (ex a) d5 ?_
  rw [e1] at l2
  omega
 ·have d1 : ((2 ^ l : Nat) : Int) ∣ A:=Int.ofNat_dvd_left.2 (Nat.dvd_trans (pow_dvd hal) dA)
  have d3 : ((2 ^ l : Nat) : Int) ∣ S:=Int.ofNat_dvd_left.2 dS
  have d5 : (2 ^ l : Nat) ∣ (S - A).natAbs:=Int.ofNat_dvd_left.1 (Int.dvd_sub d3 d1)
  refine rep_nat _ l d5 ?_
  have h7 : 2 * B * 2 ^ l = B * 2 ^ l + B * 2 ^ l:=alg7 _
  have h8 : 2 ^ l <= B * 2 ^ l:=Nat.le_mul_of_pos_left _ (by decide)
  omega
theorem rr_pos (n : Nat) (h : 0 < n) : 0 < rr n:=by
 obtain ⟨q,h3,h4⟩:=rnd_spec false n
 have h5 : rr n = min q I:=h3
 have hI : 0 < I:=by decide
 rcases Nat.eq_zero_or_pos q with h0 | h0
 ·subst h0
  have:=h4.hi
  rw [rv_zero,show rv (0 + 1) = 1 from by decide] at this
  omega
 ·omega
def sideW (near : Nat) (c : Ordering) (step : Nat) (up : Bool) : Nat:=if (c = .gt /\ up = true) \/ (c = .lt /\ up = false) then step else near
theorem min_I_lt (r : Nat) : min r I < W:=Nat.lt_of_le_of_lt (Nat.min_le_right _ _) I_lt_W
theorem of_min {r i q : Nat} (h : q = min r i) (hq : q < i) : r < i /\ q = r:=by omega
theorem vl_exact (p q : Bool) (n : Int) (t : Nat) (h : rv t = n.natAbs) (ht : t < I) : vl (rnd (sgn2 p q n) n.natAbs) = n /\ rg (rnd (sgn2 p q n) n.natAbs) < I:=by
 have h1 : rr n.natAbs = t:=by rw [<- h]; exact rr_exact t (Nat.le_of_lt ht)
 refine ⟨?_,by rw [rg_rnd,h1]; exact ht⟩
 unfold vl
 rw [rg_rnd,sg_rnd,h1,h]
 unfold sgn2
 by_cases h0 : n = 0
 ·subst h0; simp
 ·rw [if_neg h0]
  by_cases h2 : n < 0
  ·rw [decide_eq_true h2,if_pos rfl]; omega
  ·rw [decide_eq_false h2,if_neg (by simp)]; omega
theorem key_rnd (p q : Bool) (n : Int) : compare (key (rnd (sgn2 p q n) n.natAbs)) 0 = compare n 0:=by
 unfold key
 rw [rg_rnd,sg_rnd]
 unfold sgn2
 rw [compare_int,compare_int]
 by_cases h0 : n = 0
 ·subst h0; rw [show Int.natAbs 0 = 0 from rfl,rr_zero]; simp
 ·have hp:=rr_pos n.natAbs (by omega)
  rw [if_neg h0]
  by_cases h2 : n < 0
  ·rw [decide_eq_true h2,if_pos rfl,if_pos h2,if_pos (by omega)]
  ·rw [decide_eq_false h2,if_neg (show ¬ (false = true) by simp),if_neg h2,if_neg h0,if_neg (by omega),if_neg (by omega)]
theorem vl_neg (x : Nat) (h : sg x = true) : vl x <= 0:=by unfold vl; rw [h,if_pos rfl]; omega
theorem vl_pos (x : Nat) (h : sg x = false) : 0 <= vl x:=by unfold vl; rw [h,if_neg (by simp)]; omega
theorem vl_abs (x : Nat) : (vl x).natAbs = rv (rg x):=by unfold vl; split <;> omega
theorem compare_sub (N v : Int) : compare (N - v) 0 = compare N v:=by
 rw [compare_int,compare_int]
 rcases Int.lt_trichotomy N v with h | h | h
 ·rw [if_pos h,if_pos (by omega)]
 ·subst h; simp
 ·rw [if_neg (by omega),if_neg (by omega),if_neg (by omega),if_neg (by omega)]
theorem fast_sign (a b : Nat) (ha : a < 2 * W) (hb : b < 2 * W) (fa : rg a < I) (fb : rg b < I) (hba : rg b <= rg a) (s : Nat) (hs : s = rnd (sgn2 (sg a) (sg b) (vl a + vl b)) (vl a + vl b).natAbs) (fs : rg s < I) :
  ∃ t off,double.sub s a = some t /\ double.sub b t = some off /\ rg off <= I /\ compare (key off) 0 = compare (vl a + vl b) (vl s):=by
 have hsl : s < 2 * W:=by rw [hs]; exact rnd_lt _ _
 obtain ⟨r,hr1,hr2⟩:=rnd_spec (sgn2 (sg a) (sg b) (vl a + vl b)) (vl a + vl b).natAbs
 have hrg : rg s = min r I:=by rw [hs,hr1,rg_wd _ _ (min_I_lt r)]
 obtain ⟨hrI,hrs⟩:=of_min hrg fs
 have hsg : sg s = sgn2 (sg a) (sg b) (vl a + vl b):=by rw [hs,sg_rnd]
 have hvs : (vl s).natAbs = rv r:=by rw [vl_abs,hrs]
 have hva:=vl_abs a
 have hvb:=vl_abs b
 have hba' : rv (rg b) <= rv (rg a):=rv_le hba
 have hz : vl a + vl b = 0 -> vl s = 0:=by
  intro h
  have h0 : r = 0:=by
   have e:=Rnd.exact 0 0
   rw [rv_zero,Nat.zero_mul] at e
   rw [h] at hr2
   exact hr2.eq e
  unfold vl; rw [hrs,h0,rv_zero]; split <;> omega
 have hsame : (0 <= vl a + vl b /\ 0 <= vl s) \/ (vl a + vl b <= 0 /\ vl s <= 0):=by
  rcases Int.lt_trichotomy (vl a + vl b) 0 with h | h | h
  ·right
   exact ⟨Int.le_of_lt h,vl_neg s (by rw [hsg,sgn2,if_neg (Int.ne_of_lt h),decide_eq_true h])⟩
  ·left
   exact ⟨Int.le_of_eq h.symm,Int.le_of_eq (hz h).symm⟩
  ·left
   exact ⟨Int.le_of_lt h,vl_pos s (by rw [hsg,sgn2,if_neg (Int.ne_of_gt h),decide_eq_false (Int.not_lt.2 (Int.le_of_lt h))])⟩
 obtain ⟨t0,ht0⟩:=fast_rep (rg a) (rg b) r (vl a) (vl b) (vl s) hva hvb hba hr2 hvs hsame
 have ht0I : t0 < I:=by
  rw [<- rv_lt_iff,ht0]
  have h1 : rv r < rv I:=rv_mono hrI
  have h2 : rv (rg a) < rv I:=rv_mono fa
  generalize rv I = ri at *
  clear hs hsl hr1 hr2 hrg hsg ha hb
  omega
 have hal:=ng_lt a ha
 have e1 : double.sub s a = some (rnd (sgn2 (sg s) (sg (ng a)) (vl s - vl a)) (vl s - vl a).natAbs):=by
  rw [sub_any s a ha,add_fin s (ng a) fs (by rw [rg_ng a ha]; exact fa),vl_ng a ha]
  rw [show vl s + -vl a = vl s - vl a from rfl]
 obtain ⟨v1,v2⟩:=vl_exact (sg s) (sg (ng a)) (vl s - vl a) t0 ht0 ht0I
 generalize hT : rnd (sgn2 (sg s) (sg (ng a)) (vl s - vl a)) (vl s - vl a).natAbs = T at *
 have hTl : T < 2 * W:=by rw [<- hT]; exact rnd_lt _ _
 have e2 : double.sub b T = some (rnd (sgn2 (sg b) (sg (ng T)) (vl a + vl b - vl s)) (vl a + vl b - vl s).natAbs):=by
  rw [sub_any b T hTl,add_fin b (ng T) fb (by rw [rg_ng T hTl]; exact v2),vl_ng T hTl,v1]
  rw [show vl b + -(vl s - vl a) = vl a + vl b - vl s by omega]
 refine ⟨T,_,e1,e2,by rw [rg_rnd]; exact (rnd_rr false _).2,?_⟩
 rw [key_rnd,compare_sub]
end Fl
end
section
namespace Fl
open Ieee
def pl (w : Nat) : Int:=-1074 + (ex (rg w) : Nat)
theorem mul_fin (x y : Nat) (hx : rg x < I) (hy : rg y < I) : double.mul x y = some (double.nearest (sg x ^^ sg y) (mant (rg x) * mant (rg y)) (pl x + pl y)):=by
 unfold Format.mul
 rw [read_fin x hx,read_fin y hy]
 rfl
def scl (w : Nat) (k : Int) : Nat:=double.nearest (sg w) (mant (rg w)) (pl w + k)
def nM (r : Nat) : Nat:=if r < B then r * 2 ^ (52 - r.log2) else mant r
def nE (r : Nat) : Int:=if r < B then -((52 - r.log2 : Nat) : Int) else (ex r : Nat)
theorem log2_B (r : Nat) (h0 : 0 < r) (h : r < B) : r.log2 < 52:=by
 rw [Nat.log2_lt (by omega),<- B_eq]; exact h
theorem nM_range (r : Nat) (h0 : 0 < r) : B <= nM r /\ nM r < 2 * B:=by
 unfold nM
 by_cases h : r < B
 ·rw [if_pos h]
  have hl:=log2_B r h0 h
  have h1:=Nat.log2_self_le (show r ≠ 0 by omega)
  have h2 : r < 2 ^ (r.log2 + 1):=Nat.lt_log2_self
  generalize r.log2 = l at *
  have pp : 0 < 2 ^ (52 - l):=Nat.two_pow_pos _
  have e1 : B = 2 ^ l * 2 ^ (52 - l):=by rw [<- Nat.pow_add,B_eq]; congr 1; omega
  have e2 : 2 * B = 2 ^ (l + 1) * 2 ^ (52 - l):=by rw [<- Nat.pow_add,B_eq,<- Nat.pow_succ']; congr 1; omega
  rw [e2]
  refine ⟨?_,Nat.mul_lt_mul_of_pos_right h2 pp⟩
  rw [e1]; exact Nat.mul_le_mul_right _ h1
 ·rw [if_neg h]
  refine ⟨?_,mant_lt r⟩
  unfold mant ex B at *; omega
theorem nE_range (r : Nat) (h0 : 0 < r) (h : r < I) : -52 <= nE r /\ nE r <= 2045:=by
 unfold nE
 by_cases hb : r < B
 ·rw [if_pos hb]; omega
 ·rw [if_neg hb]; unfold ex B I at *; omega
theorem small_rung (r : Nat) (h : r < B) : ex r = 0 /\ mant r = r:=by
 unfold mant ex B at *; omega
theorem norm_val (r : Nat) (h0 : 0 < r) : ∃ c1 c2 : Nat,mant r * 2 ^ c1 = nM r * 2 ^ c2 /\ ((ex r : Nat) : Int) - c1 = nE r - c2:=by
 unfold nM nE
 by_cases h : r < B
 ·rw [if_pos h,if_pos h]
  obtain ⟨e1,e2⟩:=small_rung r h
  exact ⟨52 - r.log2,0,by rw [e2]; simp,by rw [e1]; omega⟩
 ·rw [if_neg h,if_neg h]
  exact ⟨0,0,rfl,rfl⟩
theorem nearest_norm (s : Bool) (r : Nat) (h0 : 0 < r) (k : Int) : double.nearest s (mant r) (k + (ex r : Nat)) = double.nearest s (nM r) (k + nE r):=by
 obtain ⟨c1,c2,h1,h2⟩:=norm_val r h0
 exact nearest_congr s _ _ _ _ c1 c2 h1 (by omega)
theorem scl_norm (w : Nat) (h0 : 0 < rg w) (k : Int) : scl w k = double.nearest (sg w) (nM (rg w)) (-1074 + k + nE (rg w)):=by
 have:=nearest_norm (sg w) (rg w) h0 (-1074 + k)
 rw [<- this]
 unfold scl pl
 congr 1
 omega
theorem nearest_exact (s : Bool) (m e : Nat) (h : B <= m) (h2 : m < 2 * B) (he : e <= 2045) : double.nearest s m (-1074 + (e : Int)) = wd s (e * B + m) /\ e * B + m < I /\ ex (e * B + m) = e /\ mant (e * B + m) = m:=by
 have hI : e * B + m < I:=by unfold B I at *; omega
 have hr:=rv_of e m (by omega) (.inr h)
 refine ⟨?_,hI,ex_of e m h2 (.inr h),mant_of e m h2 (.inr h)⟩
 rw [nearest_units s m _ (by omega),show (-1074 + (e : Int) + 1074).toNat = e by omega,<- hr]
 exact rnd_exact s _ (Nat.le_of_lt hI)
theorem scl_exact (w : Nat) (h0 : 0 < rg w) (k : Int) (h1 : 0 <= nE (rg w) + k) (h2 : nE (rg w) + k <= 2045) :
  scl w k = wd (sg w) ((nE (rg w) + k).toNat * B + nM (rg w)) /\ (nE (rg w) + k).toNat * B + nM (rg w) < I /\ nE ((nE (rg w) + k).toNat * B + nM (rg w)) = nE (rg w) + k /\ nM ((nE (rg w) + k).toNat * B + nM (rg w)) = nM (rg w):=by
 obtain ⟨m1,m2⟩:=nM_range (rg w) h0
 rw [scl_norm w h0]
 generalize nM (rg w) = m at *
 generalize nE (rg w) = e at *
 obtain ⟨n,hn⟩:=Int.eq_ofNat_of_zero_le h1
 rw [hn,Int.toNat_natCast,show -1074 + k + e = -1074 + (n : Int) by omega]
 obtain ⟨a1,a2,a3,a4⟩:=nearest_exact (sg w) m n m1 m2 (by omega)
 refine ⟨a1,a2,?_,?_⟩
 ·unfold nE; rw [if_neg (by unfold B at *; omega),a3]
 ·unfold nM; rw [if_neg (by unfold B at *; omega),a4]
theorem norm_rung (r : Nat) (h : B <= r) : r = (nE r).toNat * B + nM r /\ 0 <= nE r:=by
 unfold nE nM
 rw [if_neg (by omega),if_neg (by omega)]
 exact ⟨by rw [Int.toNat_natCast]; exact ex_mant r,by omega⟩
theorem up52 (x : Nat) (h0 : 0 < rg x) (h : rg x < B) : double.mul x 4841369599423283200 = some (wd (sg x) ((nE (rg x) + 52).toNat * B + nM (rg x))) /\ (nE (rg x) + 52).toNat * B + nM (rg x) < I /\ (nE (rg x) + 52).toNat < 52:=by
 have hc : rg 4841369599423283200 = 4841369599423283200:=by decide
 have hb : B < I:=by decide
 obtain ⟨e1,e2⟩:=small_rung (rg x) h
 have hl:=log2_B (rg x) h0 h
 have hE : nE (rg x) = -((52 - (rg x).log2 : Nat) : Int):=by unfold nE; rw [if_pos h]
 have hr:=nE_range (rg x) h0 (by omega)
 obtain ⟨m1,m2⟩:=nM_range (rg x) h0
 rw [mul_fin x _ (by omega) (by rw [hc]; decide),show sg 4841369599423283200 = false from by decide,Bool.xor_false]
 have hp : pl x + pl 4841369599423283200 = -1074 + (0 : Int):=by
  unfold pl; rw [e1,hc,show ex 4841369599423283200 = 1074 from by decide]; rfl
 have hm : mant (rg 4841369599423283200) = B:=by rw [hc]; decide
 rw [hp,hm,e2]
 have hcg:=nearest_congr (sg x) (rg x * B) (nM (rg x)) (-1074 + (0 : Int)) (-1074 + (((nE (rg x) + 52).toNat : Nat) : Int)) 0 (nE (rg x) + 52).toNat (by
  rw [Nat.pow_zero,Nat.mul_one]
  unfold nM
  rw [if_pos h,Nat.mul_assoc,<- Nat.pow_add,B_eq]
  congr 2
  rw [hE]; omega) (by omega)
 rw [hcg]
 obtain ⟨a1,a2,a3,a4⟩:=nearest_exact (sg x) (nM (rg x)) (nE (rg x) + 52).toNat m1 m2 (by rw [hE]; omega)
 exact ⟨by rw [a1],a2,by rw [hE]; omega⟩
def frx (x : Nat) : Nat:=wd (sg x) (1021 * B + nM (rg x))
def fri (x : Nat) : Int:=nE (rg x) - 1021
theorem frx_facts (x : Nat) (h0 : 0 < rg x) : sg (frx x) = sg x /\ rg (frx x) = 1021 * B + nM (rg x) /\ rg (frx x) < I /\ mant (rg (frx x)) = nM (rg x) /\ ex (rg (frx x)) = 1021 /\ frx x < 2 * W:=by
 obtain ⟨m1,m2⟩:=nM_range (rg x) h0
 have hlt : 1021 * B + nM (rg x) < I:=by unfold B I at *; omega
 have hW : 1021 * B + nM (rg x) < W:=Nat.lt_trans hlt I_lt_W
 unfold frx
 rw [sg_wd _ _ hW,rg_wd _ _ hW]
 exact ⟨rfl,rfl,hlt,mant_of 1021 _ m2 (.inr m1),ex_of 1021 _ m2 (.inr m1),wd_lt _ _ hW⟩
theorem field_exp (s : Bool) (r : Nat) (h : r < W) : wd s r / 4503599627370496 % 2048 = r / B:=by
 unfold wd B W at *
 cases s <;> simp <;> omega
theorem one_mul (y : Nat) (hy : y < 2 * W) (h : rg y < I) : double.mul 4607182418800017408 y = some y:=by
 have hc : rg 4607182418800017408 = 4607182418800017408:=by decide
 rw [mul_fin _ y (by rw [hc]; decide) h,show sg 4607182418800017408 = false from by decide,Bool.false_xor]
 have hp : pl 4607182418800017408 = -52:=by decide
 have hm : mant (rg 4607182418800017408) = 2 ^ 52:=by rw [hc]; decide
 rw [hp,hm]
 rw [nearest_congr (sg y) (2 ^ 52 * mant (rg y)) (mant (rg y)) (-52 + pl y) (pl y) 0 52 (by rw [Nat.pow_zero,Nat.mul_one,Nat.mul_comm]) (by omega)]
 unfold pl
 rw [nearest_units _ _ _ (by omega),show (-1074 + ((ex (rg y) : Nat) : Int) + 1074).toNat = ex (rg y) by omega]
 rw [show mant (rg y) * 2 ^ ex (rg y) = rv (rg y) from rfl,rnd_exact _ _ (Nat.le_of_lt h),wd_sg_rg y hy]
end Fl
end
end Go.Proofs.YtnpanpkahbcecaaGreatDoor
namespace Go.Proofs.YtnpanpkahbcecaaGreatDoor
open Go.RowKit
def NumV (w : World) (v : Value) (s : Bool) (N : Nat) (e : Int) : Prop:=∃ A c,v = .agg #[.bool s,.slice A (Nt.dg 18446744073709551616 N).length c,.int .i64 e] /\ U w A (Nt.dg 18446744073709551616 N).length c (Nt.dg 18446744073709551616 N)
theorem NumV.below {w w' : World} {v : Value} {s : Bool} {N : Nat} {e : Int} (h : NumV w v s N e) (hb : Below w.heap.size w w') : NumV w' v s N e:=by
 obtain ⟨A,c,hv,hu⟩:=h
 exact ⟨A,c,hv,hu.below hb⟩
theorem size_setCell (w : World) (p : Addr) (v : Value) : (w.setCell p v).heap.size = w.heap.size:=by simp [World.setCell]
theorem U.store {w : World} {A : Option Addr} {n c : Nat} {l : List Int} (h : U w A n c l) (p : Addr) (u v : Value) (hp : w.cell? p = some u) (hn : ∀ x,u ≠ .int .u64 x) : U (w.setCell p v) A n c l:=by
 obtain ⟨h1,h2,h3,h4⟩:=h
 refine ⟨h1,h2,h3,fun k x hk=>?_⟩
 obtain ⟨ad,e,hlt,hc⟩:=h4 k x hk
 refine ⟨ad,e,by rw [size_setCell]; exact hlt,?_⟩
 rw [World.cell?_setCell_other]
 ·exact hc
 ·intro he; rw [he,hc] at hp; exact hn x (Option.some.inj hp).symm
namespace Fl
end Fl
theorem num_store {w1 : World} {g : Nat} {b0 : Bool} {A0 : Option Addr} {n0 c0 : Nat} {e0 : Int} (h0 : w1.cell? ⟨g,0,none⟩ = some (.bool b0)) (h1 : w1.cell? ⟨g,1,none⟩ = some (.slice A0 n0 c0)) (h2 : w1.cell? ⟨g,2,none⟩ = some (.int .i64 e0))
  {A : Option Addr} {n c : Nat} {l : List Int} (hu : U w1 A n c l) (v1 v2 v3 : Value) :
  U (((w1.setCell ⟨g,0,none⟩ v1).setCell ⟨g,1,none⟩ v2).setCell ⟨g,2,none⟩ v3) A n c l /\ (∀ B (wb : World),B <= g -> Below B wb w1 -> Below B wb (((w1.setCell ⟨g,0,none⟩ v1).setCell ⟨g,1,none⟩ v2).setCell ⟨g,2,none⟩ v3)) /\
  (((w1.setCell ⟨g,0,none⟩ v1).setCell ⟨g,1,none⟩ v2).setCell ⟨g,2,none⟩ v3).cell? ⟨g,0,none⟩ = some v1 /\ (((w1.setCell ⟨g,0,none⟩ v1).setCell ⟨g,1,none⟩ v2).setCell ⟨g,2,none⟩ v3).cell? ⟨g,1,none⟩ = some v2 /\ (((w1.setCell ⟨g,0,none⟩ v1).setCell ⟨g,1,none⟩ v2).setCell ⟨g,2,none⟩ v3).cell? ⟨g,2,none⟩ = some v3:=by
 have n01 : (⟨g,0,none⟩ : Addr) ≠ ⟨g,1,none⟩:=by simp
 have n02 : (⟨g,0,none⟩ : Addr) ≠ ⟨g,2,none⟩:=by simp
 have n12 : (⟨g,1,none⟩ : Addr) ≠ ⟨g,2,none⟩:=by simp
 have k1 : (w1.setCell ⟨g,0,none⟩ v1).cell? ⟨g,1,none⟩ = some (.slice A0 n0 c0):=(World.cell?_setCell_other _ _ _ _ n01).trans h1
 have k2 : (w1.setCell ⟨g,0,none⟩ v1).cell? ⟨g,2,none⟩ = some (.int .i64 e0):=(World.cell?_setCell_other _ _ _ _ n02).trans h2
 have k3 : ((w1.setCell ⟨g,0,none⟩ v1).setCell ⟨g,1,none⟩ v2).cell? ⟨g,2,none⟩ = some (.int .i64 e0):=(World.cell?_setCell_other _ _ _ _ n12).trans k2
 refine ⟨?_,fun B wb hB hb=>((hb.setCell (p:=⟨g,0,none⟩) hB _).setCell (p:=⟨g,1,none⟩) hB _).setCell (p:=⟨g,2,none⟩) hB _,?_,?_,?_⟩
 ·exact ((hu.store _ _ v1 h0 (fun x hx=>by cases hx)).store _ _ v2 k1 (fun x hx=>by cases hx)).store _ _ v3 k3 (fun x hx=>by cases hx)
 ·rw [World.cell?_setCell_other _ _ _ _ n02.symm,World.cell?_setCell_other _ _ _ _ n01.symm]; exact World.cell?_setCell_same _ _ _ h0
 ·rw [World.cell?_setCell_other _ _ _ _ n12.symm]; exact World.cell?_setCell_same _ _ _ k1
 ·exact World.cell?_setCell_same _ _ _ k3
end Go.Proofs.YtnpanpkahbcecaaGreatDoor
namespace Go.Proofs.YtnpanpkahbcecaaGreatDoor
open Go.RowKit
theorem bitsN_len (N : Nat) : bitsN N <= 64 * (Nt.dg 18446744073709551616 N).length:=by
 unfold bitsN
 split
 ·omega
 ·rename_i h
  have h1:=Nt.val_lt 18446744073709551616 (by decide) _ (Nt.dig_dg 18446744073709551616 (by decide) N)
  rw [Nt.val_dg _ (by decide)] at h1
  generalize (Nt.dg 18446744073709551616 N).length = m at *
  rw [show (18446744073709551616 : Nat) = 2 ^ 64 from rfl,<- Nat.pow_mul] at h1
  have:=(Nat.log2_lt h).2 h1
  omega
end Go.Proofs.YtnpanpkahbcecaaGreatDoor
namespace Go.Proofs.YtnpanpkahbcecaaGreatDoor
open Go.RowKit
def Cells3 (w : World) (g : Nat) (s : Bool) (A : Option Addr) (n c : Nat) (e : Int) : Prop:=w.cell? ⟨g,0,none⟩ = some (.bool s) /\ w.cell? ⟨g,1,none⟩ = some (.slice A n c) /\ w.cell? ⟨g,2,none⟩ = some (.int .i64 e)
def Shape (w : World) (g : Nat) : Prop:=g < w.heap.size /\ (∀ j,w.frozen? ⟨g,j,none⟩ = false) /\ ∃ s A n c e,Cells3 w g s A n c e
theorem Cells3.below {w w' : World} {g : Nat} {s : Bool} {A : Option Addr} {n c : Nat} {e : Int} (h : Cells3 w g s A n c e) (hg : g < w.heap.size) (hb : Below w.heap.size w w') : Cells3 w' g s A n c e :=
 ⟨(hb.cell (p:=⟨g,0,none⟩) hg).trans h.1,(hb.cell (p:=⟨g,1,none⟩) hg).trans h.2.1,(hb.cell (p:=⟨g,2,none⟩) hg).trans h.2.2⟩
theorem Shape.below {w w' : World} {g : Nat} (h : Shape w g) (hb : Below w.heap.size w w') : Shape w' g:=by
 obtain ⟨hg,hf,s,A,n,c,e,h⟩:=h
 exact ⟨Nat.lt_of_lt_of_le hg hb.size,fun j=>(hb.frozen (p:=⟨g,j,none⟩) hg).trans (hf j),s,A,n,c,e,h.below hg hb⟩
def Two (w0 : World) (g0 : Nat) (s0 : Bool) (A0 : Option Addr) (n0 c0 : Nat) (e0 : Int) (g1 : Nat) (s1 : Bool) (A1 : Option Addr) (n1 c1 : Nat) (e1 : Int) (g2 : Nat) (w : World) : Prop :=
 (w.cell? ⟨g0,0,none⟩ = some (.bool s0) /\ w.cell? ⟨g0,1,none⟩ = some (.slice A0 n0 c0) /\ w.cell? ⟨g0,2,none⟩ = some (.int .i64 e0)) /\
 (w.cell? ⟨g1,0,none⟩ = some (.bool s1) /\ w.cell? ⟨g1,1,none⟩ = some (.slice A1 n1 c1) /\ w.cell? ⟨g1,2,none⟩ = some (.int .i64 e1)) /\ Below w0.heap.size w0 w /\ (g0 < w.heap.size /\ g1 < w.heap.size) /\ Shape w g2
section
variable {w0 : World} {g0 : Nat} {s0 : Bool} {A0 : Option Addr} {n0 c0 : Nat} {e0 : Int} {g1 : Nat} {s1 : Bool} {A1 : Option Addr} {n1 c1 : Nat} {e1 : Int} {g2 : Nat} {w : World}
end
end Go.Proofs.YtnpanpkahbcecaaGreatDoor
namespace Go.Proofs.YtnpanpkahbcecaaGreatDoor
section
open Go.RowKit
namespace Nt
theorem drop_val (B : Nat) (l : List Int) (k : Nat) (a : Int) (h : l[k]? = some a) : val B (l.drop k) = a.toNat + B * val B (l.drop (k + 1)):=by
 obtain ⟨hk,e⟩:=List.getElem?_eq_some_iff.1 h
 rw [List.drop_eq_getElem_cons hk,e]; rfl
theorem drop_set (l : List Int) (k : Nat) (v : Int) : (l.set k v).drop (k + 1) = l.drop (k + 1):=by
 rw [List.drop_set,if_pos (Nat.lt_succ_self k)]
theorem short_step (x o : List Int) (k Y r : Nat) (a S : Int) (hY : 0 < Y) (ha : x[k]? = some a) (hl : k < o.length) (ha0 : 0 <= a) (hS : S = (r : Int) * 4294967296 + a)
  (hval : val 4294967296 (x.drop (k + 1)) = Y * val 4294967296 (o.drop (k + 1)) + r) :
  val 4294967296 (x.drop k) = Y * val 4294967296 ((o.set k (S / (Y : Int))).drop k) + (S % (Y : Int)).toNat:=by
 have hu : (o.set k (S / (Y : Int)))[k]? = some (S / (Y : Int)):=by simp [hl]
 rw [drop_val _ _ _ _ ha,drop_val _ _ _ _ hu,drop_set,hval]
 have hS0 : 0 <= S:=by omega
 have h1:=Int.mul_ediv_add_emod S (Y : Int)
 have h2 : 0 <= S / (Y : Int):=Int.ediv_nonneg hS0 (by omega)
 have h3 : 0 <= S % (Y : Int):=Int.emod_nonneg _ (by omega)
 obtain ⟨q,hq⟩ : ∃ q : Nat,S / (Y : Int) = q:=⟨(S / (Y : Int)).toNat,by omega⟩
 obtain ⟨t,ht⟩ : ∃ t : Nat,S % (Y : Int) = t:=⟨(S % (Y : Int)).toNat,by omega⟩
 obtain ⟨b,hb⟩ : ∃ b : Nat,a = b:=⟨a.toNat,by omega⟩
 rw [hq,ht] at h1
 rw [hq,ht,hb,Int.toNat_natCast,Int.toNat_natCast,Int.toNat_natCast]
 have h5 : ((Y * q : Nat) : Int) = (Y : Int) * q:=Int.natCast_mul _ _
 have h4 : Y * q + t = r * 4294967296 + b:=by rw [hS,hb] at h1; omega
 generalize val 4294967296 (o.drop (k + 1)) = V
 rw [Nat.mul_add,Nat.mul_add]
 have e1 : Y * (4294967296 * V) = 4294967296 * (Y * V):=by ac_rfl
 rw [e1]
 omega
end Nt
theorem U.drop {w : World} {ad : Addr} {n c : Nat} {l : List Int} (h : U w (some ad) n c l) (k : Nat) (hk : k <= n) : U w (some (ad.add k)) (n - k) (c - k) (l.drop k):=by
 obtain ⟨h1,h2,h3,h4⟩:=h
 refine ⟨by rw [List.length_drop]; omega,by omega,(fun hh=>nomatch hh),fun j x hj=>?_⟩
 rw [List.getElem?_drop] at hj
 obtain ⟨ad',e,hlt,hc⟩:=h4 (k + j) x hj
 obtain rfl:=Option.some.inj e
 exact ⟨_,rfl,by rw [add_block]; exact hlt,by rw [Addr.add_add]; exact hc⟩
namespace Nt
end Nt
end
section
open Go.RowKit
namespace Nt
end Nt
end
section
open Go.RowKit
def UL (w : World) (A : Option Addr) (n c : Nat) (l : List Int) : Prop :=
 l.length = n /\ n <= c /\ (A = none -> c = 0) /\ ∀ k x,l[k]? = some x -> ∃ ad,A = some ad /\ ad.block < w.heap.size /\ w.cell? (ad.add k) = some (.int .i64 x)
theorem UL.below {w w' : World} {A : Option Addr} {n c : Nat} {l : List Int} (h : UL w A n c l) (hb : Below w.heap.size w w') : UL w' A n c l:=by
 obtain ⟨h1,h2,h3,h4⟩:=h
 refine ⟨h1,h2,h3,fun k x hk=>?_⟩
 obtain ⟨ad,e,hlt,hc⟩:=h4 k x hk
 exact ⟨ad,e,Nat.lt_of_lt_of_le hlt hb.size,(hb.cell (by rw [add_block]; exact hlt)).trans hc⟩
def L64 (l : List Int) : Prop:=∀ x,x ∈ l -> -9223372036854775808 <= x /\ x <= 9223372036854775807
def RowC (w : World) (base g n c : Nat) (o : List Int) : Prop:=w.ownsRow base 105 1 (.slice (some ⟨g,0,none⟩) n c) n (o.map (Value.int .u64))
theorem RowC.of {w : World} {base g n : Nat} {o : List Int} (h : Row w base g n o) : RowC w base g n n o:=h
theorem RowC.len {w : World} {base g n c : Nat} {o : List Int} (h : RowC w base g n c o) : o.length = n:=by have:=h.1; simpa using this
theorem RowC.room {w : World} {base g n c : Nat} {o : List Int} (h : RowC w base g n c o) : n <= c:=by
 rcases h.2 with ⟨h',_⟩ | ⟨g',cap',cur,h',_,hg,hn,_⟩
 ·simp at h'
 ·injection h' with _ _ e; omega
theorem RowC.cell {w : World} {base g n c : Nat} {o : List Int} (h : RowC w base g n c o) (j : Nat) (u : Int) (hj : o[j]? = some u) : w.cell? ⟨g,j,none⟩ = some (.int .u64 u):=by
 have hl : j < n:=by rw [<- h.len]; exact (List.getElem?_eq_some_iff.1 hj).1
 rw [World.ownsRow.cellAt h j (by omega),List.getElem?_map,hj]; rfl
theorem RowC.free {w : World} {base g n c : Nat} {o : List Int} (h : RowC w base g n c o) (j : Nat) : w.frozen? ⟨g,j,none⟩ = false:=World.ownsRow.frozenAt h j
theorem RowC.set {w : World} {base g n c : Nat} {o : List Int} (h : RowC w base g n c o) (j : Nat) (v : Int) : RowC (w.setCell ⟨g,j,none⟩ (.int .u64 v)) base g n c (o.set j v):=by
 have:=(World.ownsRow.stored h j (.int .u64 v)).1
 rw [<- List.map_set] at this
 exact this
theorem RowC.lt {w : World} {base g n c : Nat} {o : List Int} (h : RowC w base g n c o) : base <= g /\ g < w.heap.size:=World.ownsRow.lt h g rfl
theorem RowC.cut {w : World} {base g n c : Nat} {o : List Int} (h : RowC w base g n c o) (k : Nat) (hk : k <= n) : RowC w base g k c (o.take k):=by
 have hl:=h.len
 refine ⟨by simp; omega,.inr ?_⟩
 rcases h.2 with ⟨h',_⟩ | ⟨g',cap',cur,h',hb,hg,hn,hm,hs,ht⟩
 ·simp at h'
 ·injection h' with e1 e2 e3
  injection e1 with e1
  injection e1 with e1
  subst e1
  subst e3
  refine ⟨g,c,cur,rfl,hb,hg,by omega,hm,hs,?_⟩
  rw [List.map_take,<- ht,List.take_take]
  congr 1
  omega
theorem RowC.u {w : World} {base g n c : Nat} {o : List Int} (h : RowC w base g n c o) : U w (some ⟨g,0,none⟩) n c o :=
 ⟨h.len,h.room,(fun e=>by cases e),fun k x hk=>⟨_,rfl,h.lt.2,World.ownsRow.cells h rfl k _ (by rw [List.getElem?_map,hk]; rfl)⟩⟩
theorem take_dg (o : List Int) (hd : Nt.Dig 18446744073709551616 o) : o.take (Nt.dg 18446744073709551616 (Nt.val 18446744073709551616 o)).length = Nt.dg 18446744073709551616 (Nt.val 18446744073709551616 o) /\ (Nt.dg 18446744073709551616 (Nt.val 18446744073709551616 o)).length <= o.length:=by
 have main : ∀ n : Nat,∀ k,k <= o.length -> o.length - k = n -> True:=fun _ _ _ _=>trivial
 have key : ∀ k : Nat,k <= o.length -> (∀ x,x ∈ o.drop k -> x = 0) -> ∃ j,j <= k /\ (∀ x,x ∈ o.drop j -> x = 0) /\ (j = 0 \/ ∃ x,o[j - 1]? = some x /\ x ≠ 0):=by
  intro k
  induction k with
  | zero=>intro _ hz; exact ⟨0,Nat.le_refl _,hz,.inl rfl⟩
  | succ k ih =>
    intro hk hz
    obtain ⟨x,hx⟩ : ∃ x,o[k]? = some x:=⟨_,List.getElem?_eq_getElem (by omega)⟩
    by_cases h0 : x = 0
    ·subst h0
     obtain ⟨j,h1,h2,h3⟩:=ih (by omega) (drop_zero o k hx hz)
     exact ⟨j,by omega,h2,h3⟩
    ·exact ⟨k + 1,Nat.le_refl _,hz,.inr ⟨x,by simpa using hx,h0⟩⟩
 obtain ⟨j,h1,h2,h3⟩:=key o.length (Nat.le_refl _) (fun x hx=>by rw [List.drop_length] at hx; cases hx)
 have h4:=trimmed o j hd h2 h3 h1
 rw [<- h4]
 have h5 : (o.take j).length = j:=by rw [List.length_take,Nat.min_eq_left h1]
 rw [h5]
 exact ⟨rfl,h1⟩
def lenV : Value -> Nat
 | .slice _ n _=>n
 | _=>0
end
section
open Go.RowKit
namespace Nt
def pos (below : Bool) (d : Int) : Nat:=if below then (-d).toNat else d.toNat
end Nt
end
end Go.Proofs.YtnpanpkahbcecaaGreatDoor
